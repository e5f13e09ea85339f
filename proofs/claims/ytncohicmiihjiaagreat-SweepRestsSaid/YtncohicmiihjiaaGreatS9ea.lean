/-
  What functions of the program do. No conditions.
-/
import Derived.Test.YtncohicmiihjiaaGreatAbsExtern
import Derived.Test.YtncohicmiihjiaaGreatAbsWord
import Derived.Test.YtncohicmiihjiaaGreatProg
import Derived.KernelRfl
set_option linter.unusedVariables false
set_option linter.unusedSimpArgs false
set_option linter.constructorNameAsVariable false
set_option maxRecDepth 100000
namespace Go.Abs.Tryz
open Go Go.Abs Go.Proofs
noncomputable section
variable {O:Type} {RO:O->Loc->(Nat->Option Obj)->Prop}
theorem mixed:Tryz.prog.follows .mixedOrders=true:=by kernel_rfl
theorem bJ {G:List (FuncId × Sm O)} {f:FuncId} {fn:Func} {an:pd} {s:Sm O} (e:run Tryz.prog G fn an=s) (hG:eH RO Tryz.prog G) (hf:Tryz.prog.funcs[f]? = some fn) (hk:SM fn=true):ah RO Tryz.prog f s:=e▸eY hG mixed hf hk an
abbrev K7:Nat:=3
abbrev pW:Nat:=33
abbrev XO:Nat:=37
abbrev DA:Nat:=42
abbrev qas:Nat:=105
abbrev Zg:Nat:=113
abbrev MF:Nat:=211
abbrev Q3:Nat:=239
theorem qaw:iW Tryz.prog 112 (gv (O:=O)):=F2 Tryz.func112 (by kernel_rfl) (by kernel_rfl) (by kernel_rfl) rfl
theorem qax:iW Tryz.prog 115 (gy (O:=O)):=F3 Tryz.func115 (by kernel_rfl) (by kernel_rfl) (by kernel_rfl) rfl
def qay:Sm O:=fun xs h=>
 bif Nat.beq xs.length 0 then
 let h0:=h.ax 1
 let h1:=h0.put h.next (.cells true 152 [(.i .u64 0),(.i .u64 0),(.i .u64 0),(.i .u64 0),(.i .i64 0),(.i .i64 0)])
 some ((.p (some ((.n h.next),0))),h1)
 else none
def qaz:Sm O:=qay
theorem qa0:ag Tryz.prog 137:=Tryz.call137
theorem qa1:run (O:=O) Tryz.prog [] Tryz.f137 (.n .z .z)=qay:=by kernel_rfl
theorem qa2:ah RO Tryz.prog 137 qaz:=bJ qa1 (aJ) Tryz.func137 (by kernel_rfl)
def qa3 (O9:Sm O):Sm O:=fun xs h=>
 bif Nat.beq xs.length 0 then
 let h0:=h.ax 1
 (O9 [] h0).bind fun r1=>
 (AV.bH r1.1).bind fun p2=>
 let h3:=r1.2.put h.next (.cells true 58 [(.p p2),(.sl .nil 0),(.i .i64 0),(.i .i64 0)])
 some ((.p (some ((.n h.next),0))),h3)
 else none
def Zs:Sm O:=qa3 qaz
theorem qa5:ag Tryz.prog 83:=Tryz.call83
theorem qa6 (O9:Sm O):run (O:=O) Tryz.prog [(137,O9)] Tryz.f83 (.n .z .z)=qa3 O9:=by kernel_rfl
theorem qa7:ah RO Tryz.prog 83 Zs:=bJ (qa6 _) (ab qa0 qa2 <| aJ) Tryz.func83 (by kernel_rfl)
def qa8:Sm O:=fun xs h=>
 bif Nat.beq xs.length 2 then
 (AV.bH (xs.getD 0 .u)).bind fun p0=>
 au xs 1 fun n1=>
 Option.bind p0 fun q2=>
 ai h q2.1 q2.2 fun n4=>
 Option.bind p0 fun q5=>
 (h.st q5.1 q5.2 [(.i .i64 (IntKind.i64.wrap (n4+n1)))]).bind fun h6=>
 Option.bind p0 fun q7=>
 ai h6 q7.1 (q7.2+1) fun n9=>
 Option.bind p0 fun lO=>
 ai h6 lO.1 lO.2 fun eB=>
 Option.bind p0 fun kv=>
 (h6.st kv.1 (kv.2+1) [(.i .i64 (if eB > n9 then eB else n9))]).bind fun nC=>
 some ((.aG []),nC)
 else none
def qa9:Sm O:=qa8
theorem qba:ag Tryz.prog 175:=Tryz.call175
theorem qbb:run (O:=O) Tryz.prog [] Tryz.f175 (.n .z (.d [] [0,1,2,3,4,5,6,7,8,9,10,11,12] [0,0,2,6,14,0,32,96,224,510,1023,2047,4095]))=qa8:=by kernel_rfl
theorem qbc:ah RO Tryz.prog 175 qa9:=bJ qbb (aJ) Tryz.func175 (by kernel_rfl)
def qbd (Pa:Sm O):Sm O:=fun xs h=>
 bif Nat.beq xs.length 2 then
 (AV.bH (xs.getD 0 .u)).bind fun p0=>
 au xs 1 fun n1=>
 ((bif ((Option.isNone p0) == false) then
 some ([(.b (decide (n1<0)))],h)
 else some ([(.b true)],h)):Option (List AV × AH O)).bind fun r2=>
 (AV.aZ (r2.1.getD 0 .u)).bind fun b3=>
 (bif b3 then
 some ((.i .i64 1),r2.2)
 else Option.bind p0 fun q4=>
 ai r2.2 q4.1 (q4.2+4) fun n6=>
 let c7:Bool:=(decide (n1 > (IntKind.i64.wrap (281474976710656 - n6))))
 (bif c7 then
 some ((.i .i64 3),r2.2)
 else Option.bind p0 fun q8=>
 (Pa [(.p (some (q8.1,(q8.2+4)))),(.i .i64 n1)] r2.2).bind fun r9=>
 (AV.az 0 r9.1).bind fun ML=>
 some ((.i .i64 0),r9.2)))
 else none
def Zq:Sm O:=qbd qa9
theorem qbf:ag Tryz.prog 146:=Tryz.call146
theorem qbg (Pa:Sm O):run (O:=O) Tryz.prog [(175,Pa)] Tryz.f146 (.n .z (.n (.n (.n (.g [(2,2,[(11,.one .b)])]) (.n .z (.n .z (.n .z .z)))) .z) (.n .z .z)))=qbd Pa:=by kernel_rfl
theorem qbh:ah RO Tryz.prog 146 Zq:=bJ (qbg _) (ab qba qbc <| aJ) Tryz.func146 (by kernel_rfl)
def qbi (p0:Option (fJ × Nat)):List AV × AH O->Option ((List AV × AH O) ⊕ (List AV × AH O)):=(fun r8=>
 (AV.aX .i64 (r8.1.getD 0 .u)).bind fun n9=>
 Option.bind p0 fun lO=>
 aV r8.2 lO.1 (lO.2+1) fun B5=>
 ((bif ((decide (n9<(B5.2:Int))) == true) then
 Option.bind p0 fun kv=>
 aV r8.2 kv.1 (kv.2+1) fun Wq=>
 (bif ((decide ((0:Int)<=n9)) && (decide (n9<(Wq.2:Int)))) then
 (SA.ref Wq.1).bind fun RB=>
 (r8.2.ld RB.1 ((RB.2+(n9.toNat*2))+1)).bind fun w17=>
 (AV.aZ w17).bind fun Lv=>
 some ([(.b Lv)],r8.2)
 else none)
 else some ([(.b false)],r8.2)):Option (List AV × AH O)).bind fun gY=>
 (AV.aZ (gY.1.getD 0 .u)).bind fun UB=>
 (bif UB then
 some (Sum.inl ([(.i .i64 (IntKind.i64.wrap (n9+1)))],gY.2))
 else some (Sum.inr ([(.i .i64 n9)],gY.2))))
def Wk (zd:Sm O):Sm O:=fun xs h=>
 bif Nat.beq xs.length 2 then
 (AV.bH (xs.getD 0 .u)).bind fun p0=>
 au xs 1 fun n1=>
 (bif (decide (n1<0)) then
 some ((.aG [(.i .i64 0),(.i .i64 1)]),h)
 else (bif (decide (n1 > 4194304)) then
 some ((.aG [(.i .i64 0),(.i .i64 7)]),h)
 else Option.bind p0 fun q2=>
 ai h q2.1 (q2.2+3) fun n4=>
 (bif (decide (n4>=262144)) then
 some ((.aG [(.i .i64 0),(.i .i64 3)]),h)
 else Option.bind p0 fun q5=>
 ai h q5.1 (q5.2+2) fun n7=>
 (bu (S:=List AV × AH O) (T:=List AV × AH O) (qbi p0) ([(.i .i64 n7)],h)).bind fun zK=>
 (AV.aX .i64 (zK.1.getD 0 .u)).bind fun gZ=>
 Option.bind p0 fun Lw=>
 aV zK.2 Lw.1 (Lw.2+1) fun RC=>
 ((bif ((gZ:Int) == (RC.2:Int)) then
 let h26:=zK.2.ax 2
 Option.bind p0 fun RD=>
 aV h26 RD.1 (RD.2+1) fun DK=>
 let G5:=h26.put zK.2.next (.cells true 211 [(.sl .nil 0),(.b false)])
 (G5.bU (.loc (.n zK.2.next) 0 2) 1 2).bind fun aax=>
 (bif (Nat.ble ((DK.2+1)*33) 35184372088832) then
 (G5.cL (zK.2.next+1) 211 2 DK.1 DK.2 1 aax).bind fun UC=>
 (AV.eG UC.1).bind fun xL=>
 Option.bind p0 fun oK=>
 (UC.2.st oK.1 (oK.2+1) [(.sl xL.1 xL.2)]).bind fun Pb=>
 some ([],Pb)
 else none)
 else some ([],zK.2)):Option (List AV × AH O)).bind fun r36=>
 let zL:=r36.2.ax 1
 Option.bind p0 fun q38=>
 aV zL q38.1 (q38.2+1) fun l40=>
 (bif ((((decide ((0:Int)<=n1)) && (decide (n1<=n1))) && (decide ((n1*8)<=140737488355328))) && (decide (n1<=140737488355328))) then
 let RE:=zL.put r36.2.next (.cells true 33 ((List.replicate n1.toNat [(.i .u64 0)]).flatten))
 (bif ((decide ((0:Int)<=gZ)) && (decide (gZ<(l40.2:Int)))) then
 (SA.ref l40.1).bind fun RF=>
 (RE.st RF.1 (RF.2+(gZ.toNat*2)) [(.sl (.loc (.n r36.2.next) 0 1) n1.toNat),(.b true)]).bind fun h43=>
 Option.bind p0 fun UD=>
 ai h43 UD.1 (UD.2+3) fun G6=>
 Option.bind p0 fun q47=>
 (h43.st q47.1 (q47.2+2) [(.i .i64 (IntKind.i64.wrap (gZ+1)))]).bind fun BA=>
 Option.bind p0 fun q49=>
 (BA.st q49.1 (q49.2+3) [(.i .i64 (IntKind.i64.wrap (G6+1)))]).bind fun h50=>
 Option.bind p0 fun q51=>
 cV h50 q51.1 q51.2 fun p53=>
 (zd [(.p p53),(.i .i64 n1)] h50).bind fun ze=>
 (AV.aX .i64 ze.1).bind fun Pc=>
 some ((.aG [(.i .i64 gZ),(.i .i64 0)]),ze.2)
 else none)
 else none))))
 else none
def B2:Sm O:=Wk Zq
theorem qbl:ag Tryz.prog 99:=Tryz.call99
theorem qbm (zd:Sm O):run (O:=O) Tryz.prog [(146,zd)] Tryz.f99 (.n .z (.n (.n (.n .z (.n .z (.n .z (.n .z (.n .z (.n .z .z)))))) .z) (.n .z (.n (.n (.lp false 1 [(6,.one (.i .i64))] [(6,.one (.i .i64))] (.n (.n (.g [(7,8,[(39,.one .b)])]) .z) .z)) .z) (.n (.n .z (.j false [] .z .z)) (.n (.d [] [0,1,2,3,4,5,6,7,8,9] [0,1,3,7,0,0,32,96,255,511]) (.n .z (.n .z .z))))))))=Wk zd:=by kernel_rfl
theorem qbn:ah RO Tryz.prog 99 B2:=bJ (qbm _) (ab qbf qbh <| aJ) Tryz.func99 (by kernel_rfl)
def qbo (zf:Sm O):Sm O:=fun xs h=>
 bif Nat.beq xs.length 2 then
 (AV.bH (xs.getD 0 .u)).bind fun p0=>
 au xs 1 fun n1=>
 (bif (Option.isNone p0) then
 some ((.aG [(.p none),(.i .i64 1)]),h)
 else (zf [(.p p0),(.i .i64 n1)] h).bind fun r2=>
 (AV.az 2 r2.1).bind fun c3=>
 au c3 0 fun n4=>
 au c3 1 fun n5=>
 (bif ((n5:Int) != 0) then
 some ((.aG [(.p none),(.i .i64 n5)]),r2.2)
 else let h6:=r2.2.ax 1
 let h7:=h6.put r2.2.next (.cells true 135 [(.p p0),(.i .i64 n4),(.i .i64 0),(.i .i64 0),(.i .i64 0),(.b false)])
 some ((.aG [(.p (some ((.n r2.2.next),0))),(.i .i64 0)]),h7)))
 else none
def qbp:Sm O:=qbo B2
theorem qbq:ag Tryz.prog 84:=Tryz.call84
theorem qbr (zf:Sm O):run (O:=O) Tryz.prog [(99,zf)] Tryz.f84 (.n .z (.n (.n .z (.n .z .z)) (.n .z (.n (.n .z (.n .z .z)) .z))))=qbo zf:=by kernel_rfl
theorem qbs:ah RO Tryz.prog 84 qbp:=bJ (qbr _) (ab qbl qbn <| aJ) Tryz.func84 (by kernel_rfl)
def qbt (zf:Sm O):Sm O:=fun xs h=>
 bif Nat.beq xs.length 2 then
 (AV.bH (xs.getD 0 .u)).bind fun p0=>
 au xs 1 fun n1=>
 ((bif ((Option.isNone p0) == false) then
 some ([(.b (decide (n1<1)))],h)
 else some ([(.b true)],h)):Option (List AV × AH O)).bind fun r2=>
 (AV.aZ (r2.1.getD 0 .u)).bind fun b3=>
 ((bif (b3 == false) then
 some ([(.b (decide (n1 > 60)))],r2.2)
 else some ([(.b true)],r2.2)):Option (List AV × AH O)).bind fun r4=>
 (AV.aZ (r4.1.getD 0 .u)).bind fun b5=>
 (bif b5 then
 some ((.aG [(.p none),(.i .i64 1)]),r4.2)
 else (zf [(.p p0),(.i .i64 0)] r4.2).bind fun r6=>
 (AV.az 2 r6.1).bind fun c7=>
 au c7 0 fun n8=>
 au c7 1 fun n9=>
 (bif ((n9:Int) != 0) then
 some ((.aG [(.p none),(.i .i64 n9)]),r6.2)
 else let fM:=r6.2.ax 1
 let hU:=fM.put r6.2.next (.cells true 239 [(.p p0),(.i .i64 n8),(.i .i64 n1),(.i .i64 0),(.i .i64 0),(.i .i64 0),(.i .i64 0)])
 some ((.aG [(.p (some ((.n r6.2.next),0))),(.i .i64 0)]),hU)))
 else none
def qbu:Sm O:=qbt B2
theorem qbv:ag Tryz.prog 128:=Tryz.call128
theorem qbw (zf:Sm O):run (O:=O) Tryz.prog [(99,zf)] Tryz.f128 (.n .z (.n (.n (.g [(2,2,[(13,.one .b)]),(6,2,[(17,.one .b)])]) (.n .z .z)) (.n .z (.n (.n .z (.n .z .z)) .z))))=qbt zf:=by kernel_rfl
theorem qbx:ah RO Tryz.prog 128 qbu:=bJ (qbw _) (ab qbl qbn <| aJ) Tryz.func128 (by kernel_rfl)
def qby (Pd:Sm O):Sm O:=fun xs h=>
 bif Nat.beq xs.length 1 then
 (AV.bH (xs.getD 0 .u)).bind fun p0=>
 (Pd [(.p p0),(.i .i64 5)] h).bind fun r1=>
 (AV.az 2 r1.1).bind fun c2=>
 (AV.bH (c2.getD 0 .u)).bind fun p3=>
 au c2 1 fun n4=>
 (bif ((n4:Int) != 0) then
 some ((.aG [(.p none),(.i .i64 n4)]),r1.2)
 else let h5:=r1.2.ax 1
 let h6:=h5.put r1.2.next (.cells true 157 [(.p p0),(.p p3),(.i .i64 0),(.i .i64 0),(.i .i64 0),(.i .i64 0),(.i .i64 0),(.i .i64 0),(.i .u64 0),(.i .i64 0),(.i .i64 0)])
 some ((.aG [(.p (some ((.n r1.2.next),0))),(.i .i64 0)]),h6))
 else none
def qbz:Sm O:=qby qbu
theorem qb0:ag Tryz.prog 85:=Tryz.call85
theorem qb1 (Pd:Sm O):run (O:=O) Tryz.prog [(128,Pd)] Tryz.f85 (.n .z (.n .z (.n (.n .z (.n .z .z)) .z)))=qby Pd:=by kernel_rfl
theorem qb2:ah RO Tryz.prog 85 qbz:=bJ (qb1 _) (ab qbv qbx <| aJ) Tryz.func85 (by kernel_rfl)
def qb3 (k83 k84 k85:Sm O):Sm O:=fun xs h=>
 bif Nat.beq xs.length 2 then
 au xs 0 fun n0=>
 au xs 1 fun n1=>
 ((bif ((decide (n0<2)) == false) then
 some ([(.b (decide (n0 > 64)))],h)
 else some ([(.b true)],h)):Option (List AV × AH O)).bind fun r2=>
 (AV.aZ (r2.1.getD 0 .u)).bind fun b3=>
 (bif b3 then
 some ((.aG [(.p none),(.i .i64 1)]),r2.2)
 else (k83 [] r2.2).bind fun r4=>
 (AV.bH r4.1).bind fun p5=>
 (k84 [(.p p5),(.i .i64 n1)] r4.2).bind fun r6=>
 (AV.az 2 r6.1).bind fun c7=>
 (AV.bH (c7.getD 0 .u)).bind fun p8=>
 au c7 1 fun n9=>
 (bif ((n9:Int) != 0) then
 some ((.aG [(.p none),(.i .i64 n9)]),r6.2)
 else (k85 [(.p p5)] r6.2).bind fun ee=>
 (AV.az 2 ee.1).bind fun tz=>
 (AV.bH (tz.getD 0 .u)).bind fun Fg=>
 au tz 1 fun fE=>
 (bif ((fE:Int) != 0) then
 some ((.aG [(.p none),(.i .i64 fE)]),ee.2)
 else let nC:=ee.2.ax 1
 let tA:=nC.put ee.2.next (.cells true 124 [(.p p5),(.p p8),(.p Fg),(.i .i64 n0)])
 some ((.aG [(.p (some ((.n ee.2.next),0))),(.i .i64 0)]),tA))))
 else none
def qb4:Sm O:=qb3 Zs qbp qbz
theorem qb5:ag Tryz.prog 45:=Tryz.call45
theorem qb6 (k83 k84 k85:Sm O):run (O:=O) Tryz.prog [(83,k83),(84,k84),(85,k85)] Tryz.f45 (.n .z (.n (.n (.g [(2,2,[(15,.one .b)])]) (.n .z .z)) (.n .z (.n .z (.n (.n .z (.n .z .z)) (.n .z (.n (.n .z (.n .z .z)) .z)))))))=qb3 k83 k84 k85:=by kernel_rfl
theorem qb7:ah RO Tryz.prog 45 qb4:=bJ (qb6 _ _ _) (ab qa5 qa7 <| ab qbq qbs <| ab qb0 qb2 <| aJ) Tryz.func45 (by kernel_rfl)
def Gi:Sm O:=fun xs h=>
 bif Nat.beq xs.length 1 then
 (AV.bH (xs.getD 0 .u)).bind fun p0=>
 Option.bind p0 fun q1=>
 cV h q1.1 (q1.2+1) fun p3=>
 some ((.p p3),h)
 else none
def xj:Sm O:=Gi
theorem RG:ag Tryz.prog 23:=Tryz.call23
theorem qcb:run (O:=O) Tryz.prog [] Tryz.f23 (.n .z .z)=Gi:=by kernel_rfl
theorem RH:ah RO Tryz.prog 23 xj:=bJ qcb (aJ) Tryz.func23 (by kernel_rfl)
def Jq:Sm O:=fun xs h=>
 bif Nat.beq xs.length 1 then
 (AV.bH (xs.getD 0 .u)).bind fun p0=>
 Option.bind p0 fun q1=>
 cV h q1.1 ((q1.2+1)+1) fun p3=>
 some ((.p p3),h)
 else none
def BW:Sm O:=Jq
theorem Wr:ag Tryz.prog 32:=Tryz.call32
theorem qcg:run (O:=O) Tryz.prog [] Tryz.f32 (.n .z .z)=Jq:=by kernel_rfl
theorem Ws:ah RO Tryz.prog 32 BW:=bJ qcg (aJ) Tryz.func32 (by kernel_rfl)
def SZ:Sm O:=fun xs h=>
 bif Nat.beq xs.length 1 then
 (AV.bH (xs.getD 0 .u)).bind fun p0=>
 Option.bind p0 fun q1=>
 cV h q1.1 q1.2 fun p3=>
 some ((.p p3),h)
 else none
def QY:Sm O:=SZ
theorem qck:ag Tryz.prog 16:=Tryz.call16
theorem qcl:run (O:=O) Tryz.prog [] Tryz.f16 (.n .z .z)=SZ:=by kernel_rfl
theorem qcm:ah RO Tryz.prog 16 QY:=bJ qcl (aJ) Tryz.func16 (by kernel_rfl)
def qcn:Sm O:=fun xs h=>
 bif Nat.beq xs.length 2 then
 au xs 0 fun n0=>
 au xs 1 fun n1=>
 ((bif ((decide (n0>=0)) == true) then
 some ([(.b (decide (n0<=n1)))],h)
 else some ([(.b false)],h)):Option (List AV × AH O)).bind fun r2=>
 (AV.aZ (r2.1.getD 0 .u)).bind fun b3=>
 some ((.b b3),r2.2)
 else none
def VU:Sm O:=qcn
theorem qcp:ag Tryz.prog 151:=Tryz.call151
theorem qcq:run (O:=O) Tryz.prog [] Tryz.f151 (.n .z (.n (.g [(2,3,[(11,.one .b)])]) .z))=qcn:=by kernel_rfl
theorem qcr:ah RO Tryz.prog 151 VU:=bJ qcq (aJ) Tryz.func151 (by kernel_rfl)
def TG (sK:Sm O):Sm O:=fun xs h=>
 bif Nat.beq xs.length 1 then
 (AV.asAgg 5 (xs.getD 0 .u)).bind fun c0=>
 au c0 0 fun n1=>
 au c0 1 fun n2=>
 au c0 2 fun n3=>
 au c0 3 fun n4=>
 (AV.aZ (c0.getD 4 .u)).bind fun b5=>
 let h6:=h.ax 1
 let h7:=h6.put h.next (.cells true 39 [(.i .i64 n1),(.i .i64 n2),(.i .i64 n3),(.i .i64 n4),(.b b5)])
 ai h7 (.n h.next) 0 fun n9=>
 (sK [(.i .i64 n9),(.i .i64 4095)] h7).bind fun ee=>
 (AV.aZ ee.1).bind fun Lx=>
 ((bif ((!Lx) == false) then
 ai ee.2 (.n h.next) 1 fun fE=>
 (sK [(.i .i64 fE),(.i .i64 4095)] ee.2).bind fun ej=>
 (AV.aZ ej.1).bind fun JR=>
 some ([(.b (!JR))],ej.2)
 else some ([(.b true)],ee.2)):Option (List AV × AH O)).bind fun gR=>
 (AV.aZ (gR.1.getD 0 .u)).bind fun Fh=>
 (bif Fh then
 some ((.i .i64 20),gR.2)
 else ai gR.2 (.n h.next) 2 fun fk=>
 (sK [(.i .i64 fk),(.i .i64 31)] gR.2).bind fun gC=>
 (AV.aZ gC.1).bind fun MM=>
 (bif (!MM) then
 some ((.i .i64 21),gC.2)
 else ai gC.2 (.n h.next) 3 fun fm=>
 (sK [(.i .i64 fm),(.i .i64 7)] gC.2).bind fun kV=>
 (AV.aZ kV.1).bind fun b25=>
 (bif (!b25) then
 some ((.i .i64 2),kV.2)
 else some ((.i .i64 0),kV.2))))
 else none
def Om:Sm O:=TG VU
theorem qcu:ag Tryz.prog 139:=Tryz.call139
theorem qcv (sK:Sm O):run (O:=O) Tryz.prog [(151,sK)] Tryz.f139 (.n .z (.n (.n (.n (.g [(5,5,[(15,.one .b)])]) (.n .z (.n .z (.n .z (.n .z (.n .z .z)))))) .z) .z))=TG sK:=by kernel_rfl
theorem qcw:ah RO Tryz.prog 139 Om:=bJ (qcv _) (ab qcp qcr <| aJ) Tryz.func139 (by kernel_rfl)
def qcx (zg:Sm O):Sm O:=fun xs h=>
 bif Nat.beq xs.length 1 then
 (AV.asAgg 2 (xs.getD 0 .u)).bind fun c0=>
 au c0 0 fun n1=>
 au c0 1 fun n2=>
 let h3:=h.ax 1
 let h4:=h3.put h.next (.cells true 37 [(.i .i64 n1),(.i .i64 n2)])
 ai h4 (.n h.next) 0 fun n6=>
 ai h4 (.n h.next) 1 fun n8=>
 (zg [(.agg [(.i .i64 n6),(.i .i64 n8),(.i .i64 0),(.i .i64 0),(.b false)])] h4).bind fun r9=>
 (AV.aX .i64 r9.1).bind fun eu=>
 some ((.b ((eu:Int) == 0)),r9.2)
 else none
def TO:Sm O:=qcx Om
theorem qcz:ag Tryz.prog 145:=Tryz.call145
theorem qc0 (zg:Sm O):run (O:=O) Tryz.prog [(139,zg)] Tryz.f145 (.n .z .z)=qcx zg:=by kernel_rfl
theorem qc1:ah RO Tryz.prog 145 TO:=bJ (qc0 _) (ab qcu qcw <| aJ) Tryz.func145 (by kernel_rfl)
def qc2:Sm O:=fun xs h=>
 bif Nat.beq xs.length 1 then
 (AV.asAgg 5 (xs.getD 0 .u)).bind fun c0=>
 au c0 0 fun n1=>
 au c0 1 fun n2=>
 au c0 2 fun n3=>
 au c0 3 fun n4=>
 (AV.aZ (c0.getD 4 .u)).bind fun b5=>
 let h6:=h.ax 1
 let h7:=h6.put h.next (.cells true 39 [(.i .i64 n1),(.i .i64 n2),(.i .i64 n3),(.i .i64 n4),(.b b5)])
 ai h7 (.n h.next) 0 fun n9=>
 ai h7 (.n h.next) 1 fun fc=>
 let v12:Int:=(IntKind.i64.wrap ((IntKind.i64.wrap (1+n9))+fc))
 some ((.i .i64 v12),h7)
 else none
def TN:Sm O:=qc2
theorem qc4:ag Tryz.prog 89:=Tryz.call89
theorem qc5:run (O:=O) Tryz.prog [] Tryz.f89 (.n .z .z)=qc2:=by kernel_rfl
theorem qc6:ah RO Tryz.prog 89 TN:=bJ qc5 (aJ) Tryz.func89 (by kernel_rfl)
def qc7 (qe xN:Sm O):Sm O:=fun xs h=>
 bif Nat.beq xs.length 1 then
 (AV.asAgg 2 (xs.getD 0 .u)).bind fun c0=>
 au c0 0 fun n1=>
 au c0 1 fun n2=>
 let h3:=h.ax 1
 let h4:=h3.put h.next (.cells true 37 [(.i .i64 n1),(.i .i64 n2)])
 ai h4 (.n h.next) 0 fun n6=>
 ai h4 (.n h.next) 1 fun n8=>
 (qe [(.agg [(.i .i64 n6),(.i .i64 n8)])] h4).bind fun r9=>
 (AV.aZ r9.1).bind fun G8=>
 (bif (!G8) then
 some ((.i .i64 0),r9.2)
 else ai r9.2 (.n h.next) 0 fun eB=>
 ai r9.2 (.n h.next) 1 fun ig=>
 (xN [(.agg [(.i .i64 eB),(.i .i64 ig),(.i .i64 0),(.i .i64 0),(.b false)])] r9.2).bind fun iw=>
 (AV.aX .i64 iw.1).bind fun iy=>
 some ((.i .i64 iy),iw.2))
 else none
def qc8:Sm O:=qc7 TO TN
theorem qc9:ag Tryz.prog 138:=Tryz.call138
theorem qda (qe xN:Sm O):run (O:=O) Tryz.prog [(145,qe),(89,xN)] Tryz.f138 (.n .z (.n (.n .z (.n .z .z)) .z))=qc7 qe xN:=by kernel_rfl
theorem qdb:ah RO Tryz.prog 138 qc8:=bJ (qda _ _) (ab qcz qc1 <| ab qc4 qc6 <| aJ) Tryz.func138 (by kernel_rfl)
def qdc (Pe:Sm O):Sm O:=fun xs h=>
 bif Nat.beq xs.length 2 then
 (AV.asAgg 2 (xs.getD 0 .u)).bind fun c0=>
 au c0 0 fun n1=>
 au c0 1 fun n2=>
 au xs 1 fun n3=>
 let h4:=h.ax 1
 let h5:=h4.put h.next (.cells true 37 [(.i .i64 n1),(.i .i64 n2)])
 ai h5 (.n h.next) 0 fun n7=>
 ai h5 (.n h.next) 1 fun n9=>
 (Pe [(.agg [(.i .i64 n7),(.i .i64 n9)])] h5).bind fun ee=>
 (AV.aX .i64 ee.1).bind fun fc=>
 some ((.b (decide (fc > n3))),ee.2)
 else none
def qdd:Sm O:=qdc qc8
theorem qde:ag Tryz.prog 86:=Tryz.call86
theorem qdf (Pe:Sm O):run (O:=O) Tryz.prog [(138,Pe)] Tryz.f86 (.n .z .z)=qdc Pe:=by kernel_rfl
theorem qdg:ah RO Tryz.prog 86 qdd:=bJ (qdf _) (ab qc9 qdb <| aJ) Tryz.func86 (by kernel_rfl)
def qdh (n4:Int) (n6:Int) (n8:Int) (eu:Int) (eB:Int):List AV × AH O->Option ((List AV × AH O) ⊕ (List AV × AH O)):=(fun fA=>
 (AV.eG (fA.1.getD 0 .u)).bind fun sH=>
 (AV.aX .i64 (fA.1.getD 1 .u)).bind fun dU=>
 (AV.aX .i64 (fA.1.getD 2 .u)).bind fun iy=>
 (bif (decide (iy<5)) then
 (bif ((decide ((0:Int)<=iy)) && (decide (iy<5))) then
 (([(.i .i64 n4),(.i .i64 n6),(.i .i64 n8),(.i .i64 eu),(.i .i64 eB)]:List AV)[(iy.toNat*1)]?).bind fun w17=>
 (AV.aX .i64 w17).bind fun iM=>
 let vZ:=fA.2.ax 2
 let tx:=vZ.put fA.2.next (.cells true 195 [(.i .i64 dU),(.i .i64 iM)])
 (tx.bU (.loc (.n fA.2.next) 0 2) 1 2).bind fun aaB=>
 (bif (Nat.ble ((sH.2+1)*17) 35184372088832) then
 (tx.cL (fA.2.next+1) 195 2 sH.1 sH.2 1 aaB).bind fun fV=>
 (AV.eG fV.1).bind fun G9=>
 some (Sum.inl ([(.sl G9.1 G9.2),(.i .i64 (IntKind.i64.wrap (dU+iM))),(.i .i64 (IntKind.i64.wrap (iy+1)))],fV.2))
 else none)
 else none)
 else some (Sum.inr ([(.sl sH.1 sH.2)],fA.2))))
def qdi:Sm O:=fun xs h=>
 bif Nat.beq xs.length 0 then
 let h0:=h.ax 1
 let h1:=h0.put h.next (.cells true 232 [(.i .i64 0),(.i .i64 0),(.i .i64 0),(.i .i64 0),(.i .i64 0)])
 (h1.st (.n h.next) 0 [(.i .i64 12),(.i .i64 12),(.i .i64 5),(.i .i64 3),(.i .i64 1)]).bind fun h2=>
 ai h2 (.n h.next) 0 fun n4=>
 ai h2 (.n h.next) 1 fun n6=>
 ai h2 (.n h.next) 2 fun n8=>
 ai h2 (.n h.next) 3 fun eu=>
 ai h2 (.n h.next) 4 fun eB=>
 (bu (S:=List AV × AH O) (T:=List AV × AH O) (qdh n4 n6 n8 eu eB) ([(.sl .nil 0),(.i .i64 0),(.i .i64 0)],h2)).bind fun kV=>
 (AV.eG (kV.1.getD 0 .u)).bind fun RC=>
 let h26:=kV.2.ax 2
 let zh:=h26.put kV.2.next (.cells true 195 [(.i .i64 62),(.i .i64 1)])
 (zh.bU (.loc (.n kV.2.next) 0 2) 1 2).bind fun aaC=>
 (bif (Nat.ble ((RC.2+1)*17) 35184372088832) then
 (zh.cL (kV.2.next+1) 195 2 RC.1 RC.2 1 aaC).bind fun jC=>
 (AV.eG jC.1).bind fun RI=>
 some ((.sl RI.1 RI.2),jC.2)
 else none)
 else none
def YU:Sm O:=qdi
theorem qdk:ag Tryz.prog 110:=Tryz.call110
theorem qdl:run (O:=O) Tryz.prog [] Tryz.f110 (.n .z (.n .z (.n .z (.n .z (.n (.n .z (.n (.lp false 0 [(2,.one .sl),(3,.one (.i .i64)),(8,.one (.i .i64))] [(2,.one .sl)] (.n .z (.n .z (.n (.n (.n .z .z) .z) .z)))) .z)) .z)))))=qdi:=by kernel_rfl
theorem qdm:ah RO Tryz.prog 110 YU:=bJ qdl (aJ) Tryz.func110 (by kernel_rfl)
def qdn:Sm O:=fun xs h=>
 bif Nat.beq xs.length 1 then
 (AV.asAgg 2 (xs.getD 0 .u)).bind fun c0=>
 au c0 0 fun n1=>
 au c0 1 fun n2=>
 let h3:=h.ax 1
 let h4:=h3.put h.next (.cells true 195 [(.i .i64 n1),(.i .i64 n2)])
 ai h4 (.n h.next) 1 fun n6=>
 ((bif ((decide (n6>=1)) == true) then
 ai h4 (.n h.next) 1 fun n8=>
 some ([(.b (decide (n8<=64)))],h4)
 else some ([(.b false)],h4)):Option (List AV × AH O)).bind fun r9=>
 (AV.aZ (r9.1.getD 0 .u)).bind fun G8=>
 ((bif (G8 == true) then
 ai r9.2 (.n h.next) 0 fun eB=>
 some ([(.b (decide (eB>=0)))],r9.2)
 else some ([(.b false)],r9.2)):Option (List AV × AH O)).bind fun fA=>
 (AV.aZ (fA.1.getD 0 .u)).bind fun Of=>
 ((bif (Of == true) then
 ai fA.2 (.n h.next) 0 fun iy=>
 ai fA.2 (.n h.next) 1 fun iM=>
 some ([(.b (decide (iy<=(IntKind.i64.wrap (64 - iM)))))],fA.2)
 else some ([(.b false)],fA.2)):Option (List AV × AH O)).bind fun gY=>
 (AV.aZ (gY.1.getD 0 .u)).bind fun UB=>
 some ((.b UB),gY.2)
 else none
def VR:Sm O:=qdn
theorem qdp:ag Tryz.prog 153:=Tryz.call153
theorem qdq:run (O:=O) Tryz.prog [] Tryz.f153 (.n .z (.n (.g [(3,3,[(10,.one .b)]),(8,3,[(15,.one .b)]),(13,6,[(23,.one .b)])]) .z))=qdn:=by kernel_rfl
theorem qdr:ah RO Tryz.prog 153 VR:=bJ qdq (aJ) Tryz.func153 (by kernel_rfl)
def qds (qf:Sm O):Sm O:=fun xs h=>
 bif Nat.beq xs.length 1 then
 (AV.asAgg 2 (xs.getD 0 .u)).bind fun c0=>
 au c0 0 fun n1=>
 au c0 1 fun n2=>
 let h3:=h.ax 1
 let h4:=h3.put h.next (.cells true 195 [(.i .i64 n1),(.i .i64 n2)])
 ai h4 (.n h.next) 0 fun n6=>
 ai h4 (.n h.next) 1 fun n8=>
 (qf [(.agg [(.i .i64 n6),(.i .i64 n8)])] h4).bind fun r9=>
 (AV.aZ r9.1).bind fun G8=>
 (bif (!G8) then
 some ((.i .u64 0),r9.2)
 else ai r9.2 (.n h.next) 1 fun eB=>
 (bif (decide ((IntKind.i64.wrap (64 - eB))<0)) then
 none
 else let RJ:Int:=(Int.fdiv 18446744073709551615 (2 ^ min (IntKind.i64.wrap (64 - eB)).toNat 64))
 ai r9.2 (.n h.next) 0 fun dU=>
 (bif (decide (dU<0)) then
 none
 else some ((.i .u64 (IntKind.u64.wrap (RJ*2 ^ min dU.toNat 64))),r9.2))))
 else none
def VS:Sm O:=qds VR
theorem qdu:ag Tryz.prog 154:=Tryz.call154
theorem qdv (qf:Sm O):run (O:=O) Tryz.prog [(153,qf)] Tryz.f154 (.n .z (.n (.n .z (.n .z .z)) (.n (.d [] [0,1,2,3,4,5,6,7] [0,1,3,7,0,16,63,127]) .z)))=qds qf:=by kernel_rfl
theorem qdw:ah RO Tryz.prog 154 VS:=bJ (qdv _) (ab qdp qdr <| aJ) Tryz.func154 (by kernel_rfl)
def qdx (l0:SA × Nat) (nD:Sm O):List AV × AH O->Option ((List AV × AH O) ⊕ ((List AV × AH O) ⊕ (AV × AH O))):=(fun r1=>
 (AV.aX .u64 (r1.1.getD 0 .u)).bind fun n2=>
 (AV.aX .i64 (r1.1.getD 1 .u)).bind fun n3=>
 (bif (decide (n3<(l0.2:Int))) then
 let h4:=r1.2.ax 1
 (bif ((decide ((0:Int)<=n3)) && (decide (n3<(l0.2:Int)))) then
 (SA.ref l0.1).bind fun q5=>
 ai h4 q5.1 (q5.2+(n3.toNat*2)) fun n7=>
 ai h4 q5.1 ((q5.2+(n3.toNat*2))+1) fun n9=>
 let fM:=h4.put r1.2.next (.cells true 195 [(.i .i64 0),(.i .i64 0)])
 (fM.st (.n r1.2.next) 0 [(.i .i64 n7),(.i .i64 n9)]).bind fun hU=>
 ai hU (.n r1.2.next) 0 fun fE=>
 ai hU (.n r1.2.next) 1 fun dU=>
 (nD [(.agg [(.i .i64 fE),(.i .i64 dU)])] hU).bind fun gR=>
 (AV.aX .u64 gR.1).bind fun fq=>
 ((bif (((fq:Int) == 0) == false) then
 some ([(.b (((bK .and .u64 n2 fq):Int) != 0))],gR.2)
 else some ([(.b true)],gR.2)):Option (List AV × AH O)).bind fun jn=>
 (AV.aZ (jn.1.getD 0 .u)).bind fun b19=>
 (bif b19 then
 ((some ((.b false),jn.2):Option (AV × AH O)).map fun r=>Sum.inr (Sum.inr r))
 else some (Sum.inl ([(.i .u64 (bK .or .u64 n2 fq)),(.i .i64 (IntKind.i64.wrap (n3+1)))],jn.2)))
 else none)
 else some (Sum.inr (Sum.inl ([],r1.2)))))
def qdy (nD:Sm O):Sm O:=fun xs h=>
 bif Nat.beq xs.length 1 then
 cT xs 0 fun l0=>
 cE (S:=List AV × AH O) (R:=(AV × AH O)) (bu (S:=List AV × AH O) (T:=(List AV × AH O) ⊕ (AV × AH O)) (qdx l0 nD) ([(.i .u64 0),(.i .i64 0)],h)) fun gC=>
 some ((.b true),gC.2)
 else none
def qdz:Sm O:=qdy VS
theorem qd0:ag Tryz.prog 173:=Tryz.call173
theorem qd1 (nD:Sm O):run (O:=O) Tryz.prog [(154,nD)] Tryz.f173 (.n .z (.n .z (.n (.n .z (.n (.lp true 0 [(3,.one (.i .u64)),(9,.one (.i .i64))] [] (.n .z (.n .z (.n (.n (.n .z (.n .z (.n (.n (.g [(2,4,[(22,.one .b)])]) (.n .z .z)) .z))) .z) .z)))) .z)) .z)))=qdy nD:=by kernel_rfl
theorem qd2:ah RO Tryz.prog 173 qdz:=bJ (qd1 _) (ab qdu qdw <| aJ) Tryz.func173 (by kernel_rfl)
def qd3:Sm O:=fun xs h=>
 bif Nat.beq xs.length 1 then
 cf xs 0 fun n0=>
 ((bif (decide (n0>=4294967296)) then
 some ([(.i .u64 (Int.fdiv n0 (2 ^ 32))),(.i .i64 32)],h)
 else some ([(.i .u64 n0),(.i .i64 0)],h)):Option (List AV × AH O)).bind fun r1=>
 (AV.aX .u64 (r1.1.getD 0 .u)).bind fun n2=>
 (AV.aX .i64 (r1.1.getD 1 .u)).bind fun n3=>
 ((bif (decide (n2>=65536)) then
 some ([(.i .u64 (Int.fdiv n2 (2 ^ 16))),(.i .i64 (IntKind.i64.wrap (n3+16)))],r1.2)
 else some ([(.i .u64 n2),(.i .i64 n3)],r1.2)):Option (List AV × AH O)).bind fun r4=>
 (AV.aX .u64 (r4.1.getD 0 .u)).bind fun n5=>
 (AV.aX .i64 (r4.1.getD 1 .u)).bind fun n6=>
 ((bif (decide (n5>=256)) then
 some ([(.i .u64 (Int.fdiv n5 (2 ^ 8))),(.i .i64 (IntKind.i64.wrap (n6+8)))],r4.2)
 else some ([(.i .u64 n5),(.i .i64 n6)],r4.2)):Option (List AV × AH O)).bind fun r7=>
 (AV.aX .u64 (r7.1.getD 0 .u)).bind fun n8=>
 (AV.aX .i64 (r7.1.getD 1 .u)).bind fun n9=>
 (bif (decide ((0:Int)<=(IntKind.u8.wrap n8))) then
 (([0,1,2,2,3,3,3,3,4,4,4,4,4,4,4,4,5,5,5,5,5,5,5,5,5,5,5,5,5,5,5,5,6,6,6,6,6,6,6,6,6,6,6,6,6,6,6,6,6,6,6,6,6,6,6,6,6,6,6,6,6,6,6,6,7,7,7,7,7,7,7,7,7,7,7,7,7,7,7,7,7,7,7,7,7,7,7,7,7,7,7,7,7,7,7,7,7,7,7,7,7,7,7,7,7,7,7,7,7,7,7,7,7,7,7,7,7,7,7,7,7,7,7,7,7,7,7,7,8,8,8,8,8,8,8,8,8,8,8,8,8,8,8,8,8,8,8,8,8,8,8,8,8,8,8,8,8,8,8,8,8,8,8,8,8,8,8,8,8,8,8,8,8,8,8,8,8,8,8,8,8,8,8,8,8,8,8,8,8,8,8,8,8,8,8,8,8,8,8,8,8,8,8,8,8,8,8,8,8,8,8,8,8,8,8,8,8,8,8,8,8,8,8,8,8,8,8,8,8,8,8,8,8,8,8,8,8,8,8,8,8,8,8,8,8,8,8,8,8,8,8,8,8,8,8,8]:List UInt8)[(IntKind.u8.wrap n8).toNat]?).bind fun y10=>
 let v11:Int:=(IntKind.i64.wrap (n9+(IntKind.i64.wrap (y10.toNat:Int))))
 some ((.i .i64 v11),r7.2)
 else none)
 else none
def YS:Sm O:=qd3
theorem qd5:ag Tryz.prog 185:=Tryz.call185
theorem qd6:run (O:=O) Tryz.prog [] Tryz.f185 (.n .z (.n (.n .z (.j false [(0,.one (.i .u64)),(2,.one (.i .i64))] .z .z)) (.n (.n .z (.j false [(0,.one (.i .u64)),(2,.one (.i .i64))] .z .z)) (.n (.n .z (.j false [(0,.one (.i .u64)),(2,.one (.i .i64))] .z .z)) .z))))=qd3:=by kernel_rfl
theorem qd7:ah RO Tryz.prog 185 YS:=bJ qd6 (aJ) Tryz.func185 (by kernel_rfl)
def qd8 (qf Pf nD:Sm O):Sm O:=fun xs h=>
 bif Nat.beq xs.length 3 then
 cf xs 0 fun n0=>
 (AV.asAgg 2 (xs.getD 1 .u)).bind fun c1=>
 au c1 0 fun n2=>
 au c1 1 fun n3=>
 cf xs 2 fun n4=>
 let h5:=h.ax 1
 let h6:=h5.put h.next (.cells true 195 [(.i .i64 n2),(.i .i64 n3)])
 ai h6 (.n h.next) 0 fun n8=>
 ai h6 (.n h.next) 1 fun eu=>
 (qf [(.agg [(.i .i64 n8),(.i .i64 eu)])] h6).bind fun eM=>
 (AV.aZ eM.1).bind fun uQ=>
 (bif (!uQ) then
 some ((.aG [(.i .u64 0),(.i .i64 1)]),eM.2)
 else ai eM.2 (.n h.next) 1 fun ig=>
 (Pf [(.i .u64 n4)] eM.2).bind fun iw=>
 (AV.aX .i64 iw.1).bind fun iy=>
 (aO (iw.2.ld (.n h.next) 1) (some (.i .i64 ig))).bind fun _=>
 (bif (decide (iy > ig)) then
 some ((.aG [(.i .u64 0),(.i .i64 2)]),iw.2)
 else ai iw.2 (.n h.next) 0 fun iM=>
 ai iw.2 (.n h.next) 1 fun jK=>
 ai iw.2 (.n h.next) 0 fun gZ=>
 (bif (decide (gZ<0)) then
 none
 else (nD [(.agg [(.i .i64 iM),(.i .i64 jK)])] iw.2).bind fun v9=>
 (AV.aX .u64 v9.1).bind fun np=>
 (aO (v9.2.ld (.n h.next) 0) (some (.i .i64 gZ))).bind fun _=>
 let v25:Int:=(bK .or .u64 (bK .andNot .u64 n0 np) (IntKind.u64.wrap (n4*2 ^ min gZ.toNat 64)))
 some ((.aG [(.i .u64 v25),(.i .i64 0)]),v9.2))))
 else none
def YT:Sm O:=qd8 VR YS VS
theorem qea:ag Tryz.prog 174:=Tryz.call174
theorem qeb (qf Pf nD:Sm O):run (O:=O) Tryz.prog [(153,qf),(185,Pf),(154,nD)] Tryz.f174 (.n .z (.n (.n (.n .z (.n .z (.n (.d [] [0,2,3,1,4,5] [0,1,0,4,15,31]) (.n .z .z)))) .z) (.n (.d [] [0,1,4,5,6,7,2,3,8,9,10] [0,0,2,7,0,0,32,112,255,511,1023]) .z)))=qd8 qf Pf nD:=by kernel_rfl
theorem qec:ah RO Tryz.prog 174 YT:=bJ (qeb _ _ _) (ab qdp qdr <| ab qd5 qd7 <| ab qdu qdw <| aJ) Tryz.func174 (by kernel_rfl)
def qed (l0:SA × Nat) (l1:SA × Nat) (G':Sm O):List AV × AH O->Option ((List AV × AH O) ⊕ ((List AV × AH O) ⊕ (AV × AH O))):=(fun r6=>
 (AV.aX .u64 (r6.1.getD 0 .u)).bind fun n7=>
 (AV.aX .i64 (r6.1.getD 1 .u)).bind fun n8=>
 (bif (decide (n8<(l0.2:Int))) then
 let h9:=r6.2.ax 1
 (bif ((decide ((0:Int)<=n8)) && (decide (n8<(l0.2:Int)))) then
 (SA.ref l0.1).bind fun lO=>
 ai h9 lO.1 (lO.2+(n8.toNat*2)) fun eB=>
 ai h9 lO.1 ((lO.2+(n8.toNat*2))+1) fun ig=>
 let tA:=h9.put r6.2.next (.cells true 195 [(.i .i64 0),(.i .i64 0)])
 (tA.st (.n r6.2.next) 0 [(.i .i64 eB),(.i .i64 ig)]).bind fun sk=>
 ai sk (.n r6.2.next) 0 fun iM=>
 ai sk (.n r6.2.next) 1 fun jK=>
 (bif ((decide ((0:Int)<=n8)) && (decide (n8<(l1.2:Int)))) then
 (SA.ref l1.1).bind fun RK=>
 cQ sk RK.1 (RK.2+(n8.toNat*1)) fun fm=>
 (G' [(.i .u64 n7),(.agg [(.i .i64 iM),(.i .i64 jK)]),(.i .u64 fm)] sk).bind fun kV=>
 (AV.az 2 kV.1).bind fun c25=>
 cf c25 0 fun eJ=>
 au c25 1 fun qy=>
 (bif ((qy:Int) != 0) then
 ((some ((.aG [(.i .u64 0),(.i .i64 qy)]),kV.2):Option (AV × AH O)).map fun r=>Sum.inr (Sum.inr r))
 else some (Sum.inl ([(.i .u64 eJ),(.i .i64 (IntKind.i64.wrap (n8+1)))],kV.2)))
 else none)
 else none)
 else some (Sum.inr (Sum.inl ([(.i .u64 n7)],r6.2)))))
def qee (Pg G':Sm O):Sm O:=fun xs h=>
 bif Nat.beq xs.length 2 then
 cT xs 0 fun l0=>
 cT xs 1 fun l1=>
 (Pg [(.sl l0.1 l0.2)] h).bind fun r2=>
 (AV.aZ r2.1).bind fun b3=>
 ((bif ((!b3) == false) then
 some ([(.b (((l0.2:Int):Int) != (l1.2:Int)))],r2.2)
 else some ([(.b true)],r2.2)):Option (List AV × AH O)).bind fun r4=>
 (AV.aZ (r4.1.getD 0 .u)).bind fun b5=>
 (bif b5 then
 some ((.aG [(.i .u64 0),(.i .i64 1)]),r4.2)
 else cE (S:=List AV × AH O) (R:=(AV × AH O)) (bu (S:=List AV × AH O) (T:=(List AV × AH O) ⊕ (AV × AH O)) (qed l0 l1 G') ([(.i .u64 0),(.i .i64 0)],r4.2)) fun zM=>
 (AV.aX .u64 (zM.1.getD 0 .u)).bind fun xO=>
 some ((.aG [(.i .u64 xO),(.i .i64 0)]),zM.2))
 else none
def qef:Sm O:=qee qdz YT
theorem qeg:ag Tryz.prog 140:=Tryz.call140
theorem qeh (Pg G':Sm O):run (O:=O) Tryz.prog [(173,Pg),(174,G')] Tryz.f140 (.n .z (.n (.n (.g [(3,5,[(20,.one .b)])]) (.n .z .z)) (.n .z (.n (.n .z (.n (.lp true 0 [(6,.one (.i .u64)),(23,.one (.i .i64))] [(6,.one (.i .u64))] (.n .z (.n .z (.n (.n (.n .z (.n (.d [] [0,1,2,3,4,5,6,7,8,9,10,11] [0,0,0,0,12,28,63,127,255,255,511,2047]) (.n (.n .z (.n .z .z)) .z))) .z) .z)))) .z)) .z))))=qee Pg G':=by kernel_rfl
theorem qei:ah RO Tryz.prog 140 qef:=bJ (qeh _ _) (ab qd0 qd2 <| ab qea qec <| aJ) Tryz.func140 (by kernel_rfl)
def qej (zg zi Ph:Sm O):Sm O:=fun xs h=>
 bif Nat.beq xs.length 1 then
 (AV.asAgg 5 (xs.getD 0 .u)).bind fun c0=>
 au c0 0 fun n1=>
 au c0 1 fun n2=>
 au c0 2 fun n3=>
 au c0 3 fun n4=>
 (AV.aZ (c0.getD 4 .u)).bind fun b5=>
 let h6:=h.ax 1
 let h7:=h6.put h.next (.cells true 39 [(.i .i64 n1),(.i .i64 n2),(.i .i64 n3),(.i .i64 n4),(.b b5)])
 ai h7 (.n h.next) 0 fun n9=>
 ai h7 (.n h.next) 1 fun fc=>
 ai h7 (.n h.next) 2 fun fE=>
 ai h7 (.n h.next) 3 fun dU=>
 (h7.ld (.n h.next) 4).bind fun w16=>
 (AV.aZ w16).bind fun Fh=>
 (zg [(.agg [(.i .i64 n9),(.i .i64 fc),(.i .i64 fE),(.i .i64 dU),(.b Fh)])] h7).bind fun jn=>
 (AV.aX .i64 jn.1).bind fun fk=>
 (bif ((fk:Int) != 0) then
 some ((.aG [(.i .u64 0),(.i .i64 fk)]),jn.2)
 else (jn.2.ld (.n h.next) 4).bind fun w20=>
 (AV.aZ w20).bind fun MM=>
 ((bif MM then
 some ([(.i .u64 1)],jn.2)
 else some ([(.i .u64 0)],jn.2)):Option (List AV × AH O)).bind fun fV=>
 (AV.aX .u64 (fV.1.getD 0 .u)).bind fun fm=>
 let BB:=fV.2.ax 1
 ai BB (.n h.next) 0 fun eJ=>
 ai BB (.n h.next) 1 fun nq=>
 ai BB (.n h.next) 2 fun lN=>
 ai BB (.n h.next) 3 fun nu=>
 (zi [] BB).bind fun lL=>
 (AV.eG lL.1).bind fun l34=>
 (aO (lL.2.ld (.n h.next) 0) (some (.i .i64 eJ))).bind fun _=>
 (aO (lL.2.ld (.n h.next) 1) (some (.i .i64 nq))).bind fun _=>
 (aO (lL.2.ld (.n h.next) 2) (some (.i .i64 lN))).bind fun _=>
 (aO (lL.2.ld (.n h.next) 3) (some (.i .i64 nu))).bind fun _=>
 let Pb:=lL.2.put fV.2.next (.cells true 33 [(.i .u64 (IntKind.u64.wrap eJ)),(.i .u64 (IntKind.u64.wrap nq)),(.i .u64 (IntKind.u64.wrap lN)),(.i .u64 (IntKind.u64.wrap nu)),(.i .u64 fm),(.i .u64 1)])
 (Ph [(.sl l34.1 l34.2),(.sl (.loc (.n fV.2.next) 0 1) 6)] Pb).bind fun r36=>
 (AV.az 2 r36.1).bind fun c37=>
 cf c37 0 fun Lh=>
 au c37 1 fun vk=>
 some ((.aG [(.i .u64 Lh),(.i .i64 vk)]),r36.2))
 else none
def VV:Sm O:=qej Om YU qef
theorem qel:ag Tryz.prog 87:=Tryz.call87
theorem qem (zg zi Ph:Sm O):run (O:=O) Tryz.prog [(139,zg),(110,zi),(140,Ph)] Tryz.f87 (.n .z (.n (.n .z (.n .z (.n .z .z))) (.n .z (.n (.n .z (.j false [(5,.one (.i .u64))] .z .z)) (.n (.d [] [1,2,3,4,5,6,7,8,9,10,11,12,13,14,15,0,16,17,18,19,20,21] [0,0,2,6,14,0,32,96,224,0,512,1536,0,4096,12288,0,65534,131071,262143,262143,1048575,2097151]) .z)))))=qej zg zi Ph:=by kernel_rfl
theorem qen:ah RO Tryz.prog 87 VV:=bJ (qem _ _ _) (ab qcu qcw <| ab qdk qdm <| ab qeg qei <| aJ) Tryz.func87 (by kernel_rfl)
def qeo:Sm O:=fun xs h=>
 bif Nat.beq xs.length 1 then
 (AV.bH (xs.getD 0 .u)).bind fun p0=>
 Option.bind p0 fun q1=>
 ai h q1.1 (q1.2+2) fun n3=>
 some ((.i .i64 (IntKind.i64.wrap (n3+1))),h)
 else none
def Q4:Sm O:=qeo
theorem qeq:ag Tryz.prog 176:=Tryz.call176
theorem qer:run (O:=O) Tryz.prog [] Tryz.f176 (.n .z .z)=qeo:=by kernel_rfl
theorem qes:ah RO Tryz.prog 176 Q4:=bJ qer (aJ) Tryz.func176 (by kernel_rfl)
def We:Sm O:=fun xs h=>
 bif Nat.beq xs.length 2 then
 (AV.bH (xs.getD 0 .u)).bind fun p0=>
 au xs 1 fun n1=>
 ((bif ((decide (n1<0)) == false) then
 Option.bind p0 fun q2=>
 aV h q2.1 (q2.2+1) fun l4=>
 some ([(.b (decide (n1>=(l4.2:Int))))],h)
 else some ([(.b true)],h)):Option (List AV × AH O)).bind fun r5=>
 (AV.aZ (r5.1.getD 0 .u)).bind fun b6=>
 ((bif (b6 == false) then
 Option.bind p0 fun q7=>
 aV r5.2 q7.1 (q7.2+1) fun l9=>
 (bif ((decide ((0:Int)<=n1)) && (decide (n1<(l9.2:Int)))) then
 (SA.ref l9.1).bind fun lO=>
 (r5.2.ld lO.1 ((lO.2+(n1.toNat*2))+1)).bind fun w11=>
 (AV.aZ w11).bind fun uQ=>
 some ([(.b (!uQ))],r5.2)
 else none)
 else some ([(.b true)],r5.2)):Option (List AV × AH O)).bind fun fA=>
 (AV.aZ (fA.1.getD 0 .u)).bind fun Of=>
 (bif Of then
 some ((.p none),fA.2)
 else Option.bind p0 fun kW=>
 aV fA.2 kW.1 (kW.2+1) fun zI=>
 (bif ((decide ((0:Int)<=n1)) && (decide (n1<(zI.2:Int)))) then
 (SA.ref zI.1).bind fun Ly=>
 some ((.p (some (Ly.1,(Ly.2+(n1.toNat*2))))),fA.2)
 else none))
 else none
def KN:Sm O:=We
theorem qev:ag Tryz.prog 124:=Tryz.call124
theorem qew:run (O:=O) Tryz.prog [] Tryz.f124 (.n .z (.n (.n (.g [(2,7,[(15,.one .b)]),(11,9,[(26,.one .b)])]) (.n .z .z)) .z))=We:=by kernel_rfl
theorem qex:ah RO Tryz.prog 124 KN:=bJ qew (aJ) Tryz.func124 (by kernel_rfl)
def Wj (kY zd:Sm O):Sm O:=fun xs h=>
 bif Nat.beq xs.length 3 then
 (AV.bH (xs.getD 0 .u)).bind fun p0=>
 au xs 1 fun n1=>
 au xs 2 fun n2=>
 (kY [(.p p0),(.i .i64 n1)] h).bind fun r3=>
 (AV.bH r3.1).bind fun p4=>
 (bif (Option.isNone p4) then
 some ((.i .i64 10),r3.2)
 else Option.bind p4 fun q5=>
 aV r3.2 q5.1 q5.2 fun l7=>
 (bif (decide (n2<(l7.2:Int))) then
 some ((.i .i64 1),r3.2)
 else (bif (decide (n2 > 4194304)) then
 some ((.i .i64 7),r3.2)
 else Option.bind p0 fun q8=>
 cV r3.2 q8.1 q8.2 fun vm=>
 Option.bind p4 fun Ha=>
 aV r3.2 Ha.1 Ha.2 fun DE=>
 (zd [(.p vm),(.i .i64 (IntKind.i64.wrap (n2 - (DE.2:Int))))] r3.2).bind fun ej=>
 (AV.aX .i64 ej.1).bind fun dU=>
 let sk:=ej.2.ax 1
 (bif ((((decide ((0:Int)<=n2)) && (decide (n2<=n2))) && (decide ((n2*8)<=140737488355328))) && (decide (n2<=140737488355328))) then
 let RL:=sk.put ej.2.next (.cells true 33 ((List.replicate n2.toNat [(.i .u64 0)]).flatten))
 Option.bind p4 fun Ly=>
 aV RL Ly.1 Ly.2 fun Pj=>
 (bif Nat.beq (min Pj.2 n2.toNat) 0 then
 Option.bind p4 fun Lz=>
 (RL.st Lz.1 Lz.2 [(.sl (.loc (.n ej.2.next) 0 1) n2.toNat)]).bind fun DL=>
 some ((.i .i64 0),DL)
 else
 (RL.bU Pj.1 (min Pj.2 n2.toNat) 1).bind fun c22=>
 (RL.zZ (.loc (.n ej.2.next) 0 1) c22).bind fun MN=>
 Option.bind p4 fun RM=>
 (MN.st RM.1 RM.2 [(.sl (.loc (.n ej.2.next) 0 1) n2.toNat)]).bind fun zh=>
 some ((.i .i64 0),zh))
 else none))))
 else none
def HU:Sm O:=Wj KN Zq
theorem qe0:ag Tryz.prog 183:=Tryz.call183
theorem qe1 (kY zd:Sm O):run (O:=O) Tryz.prog [(124,kY),(146,zd)] Tryz.f183 (.n .z (.n .z (.n (.n (.n .z (.n .z (.n .z (.n .z (.n .z (.n .z .z)))))) .z) (.n (.d [] [0,1,2,3,4,5,6,7,8,9,10,11] [0,1,3,7,0,0,32,96,224,480,1008,2047]) (.n .z (.n .z (.n .z .z)))))))=Wj kY zd:=by kernel_rfl
theorem qe2:ah RO Tryz.prog 183 HU:=bJ (qe1 _ _) (ab qev qex <| ab qbf qbh <| aJ) Tryz.func183 (by kernel_rfl)
def qe3 (qg Pk:Sm O):Sm O:=fun xs h=>
 bif Nat.beq xs.length 1 then
 (AV.bH (xs.getD 0 .u)).bind fun p0=>
 Option.bind p0 fun q1=>
 ai h q1.1 (q1.2+3) fun n3=>
 (bif (decide (n3>=1048576)) then
 some ((.i .i64 3),h)
 else Option.bind p0 fun q4=>
 ai h q4.1 (q4.2+3) fun n6=>
 Option.bind p0 fun q7=>
 ai h q7.1 (q7.2+4) fun n9=>
 (bif (decide (n6<n9)) then
 some ((.i .i64 0),h)
 else Option.bind p0 fun lO=>
 ai h lO.1 (lO.2+4) fun eB=>
 let RJ:Int:=(if (IntKind.i64.wrap (2*eB)) > 8 then (IntKind.i64.wrap (2*eB)) else 8)
 Option.bind p0 fun qh=>
 cV h qh.1 qh.2 fun xP=>
 Option.bind p0 fun vn=>
 ai h vn.1 (vn.2+1) fun fk=>
 (qg [(.p p0)] h).bind fun gC=>
 (AV.aX .i64 gC.1).bind fun nR=>
 (aO (gC.2.ld qh.1 qh.2) (some (.p xP))).bind fun _=>
 (aO (gC.2.ld vn.1 (vn.2+1)) (some (.i .i64 fk))).bind fun _=>
 (Pk [(.p xP),(.i .i64 fk),(.i .i64 (IntKind.i64.wrap (RJ*nR)))] gC.2).bind fun fV=>
 (AV.aX .i64 fV.1).bind fun fm=>
 (bif ((fm:Int) != 0) then
 some ((.i .i64 3),fV.2)
 else Option.bind p0 fun Lz=>
 (fV.2.st Lz.1 (Lz.2+4) [(.i .i64 RJ)]).bind fun DL=>
 some ((.i .i64 0),DL))))
 else none
def YC:Sm O:=qe3 Q4 HU
theorem qe5:ag Tryz.prog 169:=Tryz.call169
theorem qe6 (qg Pk:Sm O):run (O:=O) Tryz.prog [(176,qg),(183,Pk)] Tryz.f169 (.n .z (.n (.n (.n .z (.n .z (.n (.d [] [0,1,2,3,4,5,6,7,8,9] [0,1,3,7,0,16,48,112,255,511]) (.n .z .z)))) .z) (.n .z (.n (.n (.d [] [0,1,2,3,4,5,6,7,8,9,10,11,12,13] [0,1,3,7,0,16,48,112,0,0,512,1792,4095,8191]) (.n .z (.n .z .z))) (.n .z .z)))))=qe3 qg Pk:=by kernel_rfl
theorem qe7:ah RO Tryz.prog 169 YC:=bJ (qe6 _ _) (ab qeq qes <| ab qe0 qe2 <| aJ) Tryz.func169 (by kernel_rfl)
def qe8 (qg:Sm O):Sm O:=fun xs h=>
 bif Nat.beq xs.length 3 then
 (AV.bH (xs.getD 0 .u)).bind fun p0=>
 au xs 1 fun n1=>
 au xs 2 fun n2=>
 (qg [(.p p0)] h).bind fun r3=>
 (AV.aX .i64 r3.1).bind fun n4=>
 let v5:Int:=(IntKind.i64.wrap ((IntKind.i64.wrap (n1 - 1))*n4))
 let v6:Int:=(IntKind.i64.wrap ((IntKind.i64.wrap (v5+1))+n2))
 some ((.i .i64 v6),r3.2)
 else none
def EJ:Sm O:=qe8 Q4
theorem qfa:ag Tryz.prog 159:=Tryz.call159
theorem qfb (qg:Sm O):run (O:=O) Tryz.prog [(176,qg)] Tryz.f159 (.n .z .z)=qe8 qg:=by kernel_rfl
theorem qfc:ah RO Tryz.prog 159 EJ:=bJ (qfb _) (ab qeq qes <| aJ) Tryz.func159 (by kernel_rfl)
def Rn (kY:Sm O):Sm O:=fun xs h=>
 bif Nat.beq xs.length 4 then
 (AV.bH (xs.getD 0 .u)).bind fun p0=>
 au xs 1 fun n1=>
 au xs 2 fun n2=>
 au xs 3 fun n3=>
 (kY [(.p p0),(.i .i64 n1)] h).bind fun r4=>
 (AV.bH r4.1).bind fun p5=>
 (bif (Option.isNone p5) then
 some ((.aG [(.sl .nil 0),(.i .i64 10)]),r4.2)
 else ((bif ((decide (n3<0)) == false) then
 some ([(.b (decide (n2<0)))],r4.2)
 else some ([(.b true)],r4.2)):Option (List AV × AH O)).bind fun r6=>
 (AV.aZ (r6.1.getD 0 .u)).bind fun b7=>
 ((bif (b7 == false) then
 Option.bind p5 fun q8=>
 aV r6.2 q8.1 q8.2 fun l10=>
 some ([(.b (decide (n2 > (l10.2:Int))))],r6.2)
 else some ([(.b true)],r6.2)):Option (List AV × AH O)).bind fun eM=>
 (AV.aZ (eM.1.getD 0 .u)).bind fun uQ=>
 ((bif (uQ == false) then
 Option.bind p5 fun kv=>
 aV eM.2 kv.1 kv.2 fun Wq=>
 let vo:Bool:=(decide (n3 > (IntKind.i64.wrap ((Wq.2:Int) - n2))))
 some ([(.b vo)],eM.2)
 else some ([(.b true)],eM.2)):Option (List AV × AH O)).bind fun fP=>
 (AV.aZ (fP.1.getD 0 .u)).bind fun Lv=>
 (bif Lv then
 some ((.aG [(.sl .nil 0),(.i .i64 11)]),fP.2)
 else Option.bind p5 fun Hb=>
 aV fP.2 Hb.1 Hb.2 fun l21=>
 (bif (((decide ((0:Int)<=n2)) && (decide (n2<=(IntKind.i64.wrap (n2+n3))))) && (decide ((IntKind.i64.wrap (n2+n3))<=(l21.2:Int)))) then
 (SA.Cm l21.1 n2.toNat 1).bind fun a22=>
 some ((.aG [(.sl a22 ((IntKind.i64.wrap (n2+n3)).toNat - n2.toNat)),(.i .i64 0)]),fP.2)
 else none)))
 else none
def Dv:Sm O:=Rn KN
theorem qff:ag Tryz.prog 156:=Tryz.call156
theorem qfg (kY:Sm O):run (O:=O) Tryz.prog [(124,kY)] Tryz.f156 (.n .z (.n .z (.n (.n (.n .z (.n .z (.n (.g [(2,2,[(23,.one .b)]),(6,7,[(32,.one .b)]),(15,9,[(43,.one .b)])]) (.n .z .z)))) .z) .z)))=Rn kY:=by kernel_rfl
theorem qfh:ah RO Tryz.prog 156 Dv:=bJ (qfg _) (ab qev qex <| aJ) Tryz.func156 (by kernel_rfl)
def qfi:Sm O:=fun xs h=>
 bif Nat.beq xs.length 1 then
 cf xs 0 fun n0=>
 let h1:=h.ax 1
 let h2:=h1.put h.next (.cells true 51 [(.i .u64 0),(.i .u64 0)])
 (h2.st (.n h.next) 0 [(.i .u64 0),(.i .u64 n0)]).bind fun h3=>
 cQ h3 (.n h.next) 0 fun n5=>
 cQ h3 (.n h.next) 1 fun n7=>
 some ((.agg [(.i .u64 n5),(.i .u64 n7)]),h3)
 else none
def qfj:Sm O:=qfi
theorem qfk:ag Tryz.prog 179:=Tryz.call179
theorem qfl:run (O:=O) Tryz.prog [] Tryz.f179 (.n .z .z)=qfi:=by kernel_rfl
theorem qfm:ah RO Tryz.prog 179 qfj:=bJ qfl (aJ) Tryz.func179 (by kernel_rfl)
def qfn:Sm O:=fun xs h=>
 bif Nat.beq xs.length 0 then
 let h0:=h.ax 1
 let h1:=h0.put h.next (.cells true 51 [(.i .u64 0),(.i .u64 0)])
 (h1.st (.n h.next) 0 [(.i .u64 18446744073709551615),(.i .u64 18446744073709551615)]).bind fun h2=>
 cQ h2 (.n h.next) 0 fun n4=>
 cQ h2 (.n h.next) 1 fun n6=>
 some ((.agg [(.i .u64 n4),(.i .u64 n6)]),h2)
 else none
def qfo:Sm O:=qfn
theorem qfp:ag Tryz.prog 113:=Tryz.call113
theorem qfq:run (O:=O) Tryz.prog [] Tryz.f113 (.n .z .z)=qfn:=by kernel_rfl
theorem qfr:ah RO Tryz.prog 113 qfo:=bJ qfq (aJ) Tryz.func113 (by kernel_rfl)
def qfs (LA Pl:Sm O):Sm O:=fun xs h=>
 bif Nat.beq xs.length 2 then
 (AV.asAgg 2 (xs.getD 0 .u)).bind fun c0=>
 cf c0 0 fun n1=>
 cf c0 1 fun n2=>
 (AV.asAgg 2 (xs.getD 1 .u)).bind fun c3=>
 cf c3 0 fun n4=>
 cf c3 1 fun n5=>
 let h6:=h.ax 3
 let h7:=h6.put h.next (.cells true 51 [(.i .u64 n1),(.i .u64 n2)])
 let h8:=h7.put (h.next+1) (.cells true 51 [(.i .u64 n4),(.i .u64 n5)])
 let h9:=h8.put ((h.next+1)+1) (.cells true 51 [(.i .u64 0),(.i .u64 0)])
 cQ h9 (.n h.next) 1 fun fc=>
 cQ h9 (.n (h.next+1)) 1 fun fE=>
 (LA [(.i .u64 fc),(.i .u64 fE),(.i .u64 0)] h9).bind fun ej=>
 (AV.az 2 ej.1).bind fun c15=>
 cf c15 0 fun iy=>
 cf c15 1 fun fq=>
 cQ ej.2 (.n h.next) 0 fun fk=>
 cQ ej.2 (.n (h.next+1)) 0 fun nR=>
 (LA [(.i .u64 fk),(.i .u64 nR),(.i .u64 fq)] ej.2).bind fun fV=>
 (AV.az 2 fV.1).bind fun RN=>
 cf RN 0 fun np=>
 cf RN 1 fun qi=>
 (bif ((qi:Int) != 0) then
 (Pl [] fV.2).bind fun nS=>
 (AV.asAgg 2 nS.1).bind fun BC=>
 cf BC 0 fun nq=>
 cf BC 1 fun xO=>
 (nS.2.st (.n ((h.next+1)+1)) 0 [(.i .u64 nq),(.i .u64 xO)]).bind fun G5=>
 cQ G5 (.n ((h.next+1)+1)) 0 fun nu=>
 cQ G5 (.n ((h.next+1)+1)) 1 fun sL=>
 some ((.aG [(.agg [(.i .u64 nu),(.i .u64 sL)]),(.b false)]),G5)
 else (fV.2.st (.n ((h.next+1)+1)) 0 [(.i .u64 np),(.i .u64 iy)]).bind fun Pb=>
 cQ Pb (.n ((h.next+1)+1)) 0 fun B7=>
 cQ Pb (.n ((h.next+1)+1)) 1 fun vk=>
 some ((.aG [(.agg [(.i .u64 B7),(.i .u64 vk)]),(.b true)]),Pb))
 else none
def Zp:Sm O:=qfs gv qfo
theorem qfu:ag Tryz.prog 58:=Tryz.call58
theorem qfv (LA Pl:Sm O):run (O:=O) Tryz.prog [(112,LA),(113,Pl)] Tryz.f58 (.n .z (.n .z (.n .z (.n (.n .z (.n .z .z)) .z))))=qfs LA Pl:=by kernel_rfl
theorem qfw:ah RO Tryz.prog 58 Zp:=bJ (qfv _ _) (Xz qaw <| ab qfp qfr <| aJ) Tryz.func58 (by kernel_rfl)
def Zr (Pm Pn:Sm O):Sm O:=fun xs h=>
 bif Nat.beq xs.length 3 then
 (AV.bH (xs.getD 0 .u)).bind fun p0=>
 au xs 1 fun n1=>
 au xs 2 fun n2=>
 ((bif ((Option.isNone p0) == false) then
 some ([(.b (decide (n1<0)))],h)
 else some ([(.b true)],h)):Option (List AV × AH O)).bind fun r3=>
 (AV.aZ (r3.1.getD 0 .u)).bind fun b4=>
 ((bif (b4 == false) then
 some ([(.b (decide (n1>=2)))],r3.2)
 else some ([(.b true)],r3.2)):Option (List AV × AH O)).bind fun r5=>
 (AV.aZ (r5.1.getD 0 .u)).bind fun b6=>
 ((bif (b6 == false) then
 some ([(.b (decide (n2<1)))],r5.2)
 else some ([(.b true)],r5.2)):Option (List AV × AH O)).bind fun r7=>
 (AV.aZ (r7.1.getD 0 .u)).bind fun b8=>
 (bif b8 then
 some ((.aG []),r7.2)
 else Option.bind p0 fun q9=>
 (bif ((decide ((0:Int)<=n1)) && (decide (n1<2))) then
 cQ r7.2 q9.1 (q9.2+(n1.toNat*2)) fun fc=>
 cQ r7.2 q9.1 ((q9.2+(n1.toNat*2))+1) fun fE=>
 Option.bind p0 fun qh=>
 (Pm [(.i .u64 (IntKind.u64.wrap n2))] r7.2).bind fun iw=>
 (AV.asAgg 2 iw.1).bind fun vo=>
 cf vo 0 fun fq=>
 cf vo 1 fun iM=>
 (aO (iw.2.ld q9.1 (q9.2+(n1.toNat*2))) (some (.i .u64 fc))).bind fun _=>
 (aO (iw.2.ld q9.1 ((q9.2+(n1.toNat*2))+1)) (some (.i .u64 fE))).bind fun _=>
 (Pn [(.agg [(.i .u64 fc),(.i .u64 fE)]),(.agg [(.i .u64 fq),(.i .u64 iM)])] iw.2).bind fun gY=>
 (AV.az 2 gY.1).bind fun Fi=>
 (AV.asAgg 2 (Fi.getD 0 .u)).bind fun xQ=>
 cf xQ 0 fun gZ=>
 cf xQ 1 fun fm=>
 (AV.aZ (Fi.getD 1 .u)).bind fun b24=>
 (bif ((decide ((0:Int)<=n1)) && (decide (n1<2))) then
 (gY.2.st qh.1 (qh.2+(n1.toNat*2)) [(.i .u64 gZ),(.i .u64 fm)]).bind fun DL=>
 some ((.aG []),DL)
 else none)
 else none))
 else none
def KL:Sm O:=Zr qfj Zp
theorem qfz:ag Tryz.prog 157:=Tryz.call157
theorem qf0 (Pm Pn:Sm O):run (O:=O) Tryz.prog [(179,Pm),(58,Pn)] Tryz.f157 (.n (.n (.g [(2,2,[(11,.one .b)]),(6,2,[(15,.one .b)]),(10,2,[(19,.one .b)])]) .z) (.d [] [0,1,2,3,4,5,6,7,8,9,15,16,10,11,12,13,14,17,18] [0,0,0,0,4,20,60,124,0,256,768,2044,4092,8188,8188,1,32769,114687,245759]))=Zr Pm Pn:=by kernel_rfl
theorem qf1:ah RO Tryz.prog 157 KL:=bJ (qf0 _ _) (ab qfk qfm <| ab qfu qfw <| aJ) Tryz.func157 (by kernel_rfl)
def Zx (kq kr:Sm O):Sm O:=fun xs h=>
 bif Nat.beq xs.length 4 then
 (AV.bH (xs.getD 0 .u)).bind fun p0=>
 au xs 1 fun n1=>
 au xs 2 fun n2=>
 cf xs 3 fun n3=>
 (kq [(.p p0),(.i .i64 n1),(.i .i64 n2),(.i .i64 1)] h).bind fun r4=>
 (AV.az 2 r4.1).bind fun c5=>
 cT c5 0 fun l6=>
 au c5 1 fun n7=>
 (bif ((n7:Int) != 0) then
 some ((.i .i64 n7),r4.2)
 else Option.bind p0 fun q8=>
 cV r4.2 q8.1 q8.2 fun vm=>
 (kr [(.p vm),(.i .i64 1),(.i .i64 1)] r4.2).bind fun eM=>
 (AV.az 0 eM.1).bind fun c12=>
 (bif (decide ((0:Int)<(l6.2:Int))) then
 (SA.ref l6.1).bind fun kv=>
 (eM.2.st kv.1 kv.2 [(.i .u64 n3)]).bind fun nC=>
 some ((.i .i64 0),nC)
 else none))
 else none
def yO:Sm O:=Zx Dv KL
theorem UE:ag Tryz.prog 141:=Tryz.call141
theorem qf5 (kq kr:Sm O):run (O:=O) Tryz.prog [(156,kq),(157,kr)] Tryz.f141 (.n .z (.n .z (.n (.n .z (.n .z .z)) (.n .z (.n .z .z)))))=Zx kq kr:=by kernel_rfl
theorem UF:ah RO Tryz.prog 141 yO:=bJ (qf5 _ _) (ab qff qfh <| ab qfz qf1 <| aJ) Tryz.func141 (by kernel_rfl)
def Zu (kq kr:Sm O):Sm O:=fun xs h=>
 bif Nat.beq xs.length 3 then
 (AV.bH (xs.getD 0 .u)).bind fun p0=>
 au xs 1 fun n1=>
 au xs 2 fun n2=>
 (kq [(.p p0),(.i .i64 n1),(.i .i64 n2),(.i .i64 1)] h).bind fun r3=>
 (AV.az 2 r3.1).bind fun c4=>
 cT c4 0 fun l5=>
 au c4 1 fun n6=>
 (bif ((n6:Int) != 0) then
 some ((.aG [(.i .u64 0),(.i .i64 n6)]),r3.2)
 else Option.bind p0 fun q7=>
 cV r3.2 q7.1 q7.2 fun p9=>
 (kr [(.p p9),(.i .i64 0),(.i .i64 1)] r3.2).bind fun ee=>
 (AV.az 0 ee.1).bind fun tz=>
 (bif (decide ((0:Int)<(l5.2:Int))) then
 (SA.ref l5.1).bind fun zj=>
 cQ ee.2 zj.1 zj.2 fun ig=>
 some ((.aG [(.i .u64 ig),(.i .i64 0)]),ee.2)
 else none))
 else none
def yN:Sm O:=Zu Dv KL
theorem UG:ag Tryz.prog 117:=Tryz.call117
theorem qga (kq kr:Sm O):run (O:=O) Tryz.prog [(156,kq),(157,kr)] Tryz.f117 (.n .z (.n .z (.n (.n .z (.n .z .z)) (.n .z .z))))=Zu kq kr:=by kernel_rfl
theorem UH:ah RO Tryz.prog 117 yN:=bJ (qga _ _) (ab qff qfh <| ab qfz qf1 <| aJ) Tryz.func117 (by kernel_rfl)
def Wi (kq kr:Sm O):Sm O:=fun xs h=>
 bif Nat.beq xs.length 4 then
 (AV.bH (xs.getD 0 .u)).bind fun p0=>
 au xs 1 fun n1=>
 au xs 2 fun n2=>
 au xs 3 fun n3=>
 (kq [(.p p0),(.i .i64 n1),(.i .i64 n2),(.i .i64 n3)] h).bind fun r4=>
 (AV.az 2 r4.1).bind fun c5=>
 cT c5 0 fun l6=>
 au c5 1 fun n7=>
 (bif ((n7:Int) != 0) then
 some ((.i .i64 n7),r4.2)
 else Option.bind p0 fun q8=>
 cV r4.2 q8.1 q8.2 fun vm=>
 (kr [(.p vm),(.i .i64 1),(.i .i64 n3)] r4.2).bind fun eM=>
 (AV.az 0 eM.1).bind fun c12=>
 (bif Nat.beq l6.2 0 then
 some ((.i .i64 0),eM.2)
 else
 (eM.2.zZ l6.1 ((List.replicate l6.2 [(.i .u64 0)]).flatten)).bind fun lz=>
 some ((.i .i64 0),lz)))
 else none
def HT:Sm O:=Wi Dv KL
theorem qge:ag Tryz.prog 170:=Tryz.call170
theorem qgf (kq kr:Sm O):run (O:=O) Tryz.prog [(156,kq),(157,kr)] Tryz.f170 (.n .z (.n .z (.n (.n .z (.n .z .z)) (.n .z (.n .z .z)))))=Wi kq kr:=by kernel_rfl
theorem qgg:ah RO Tryz.prog 170 HT:=bJ (qgf _ _) (ab qff qfh <| ab qfz qf1 <| aJ) Tryz.func170 (by kernel_rfl)
def qgh (Po gf eN eX Pp:Sm O):Sm O:=fun xs h=>
 bif Nat.beq xs.length 1 then
 (AV.bH (xs.getD 0 .u)).bind fun p0=>
 Option.bind p0 fun q1=>
 ai h q1.1 (q1.2+5) fun n3=>
 (bif ((n3:Int) == 0) then
 (Po [(.p p0)] h).bind fun r4=>
 (AV.aX .i64 r4.1).bind fun n5=>
 (bif ((n5:Int) != 0) then
 some ((.aG [(.i .i64 0),(.i .i64 n5)]),r4.2)
 else Option.bind p0 fun q6=>
 ai r4.2 q6.1 (q6.2+3) fun n8=>
 Option.bind p0 fun q9=>
 (r4.2.st q9.1 (q9.2+3) [(.i .i64 (IntKind.i64.wrap (n8+1)))]).bind fun fM=>
 Option.bind p0 fun Ha=>
 ai fM Ha.1 (Ha.2+3) fun fE=>
 Option.bind p0 fun qh=>
 cV fM qh.1 qh.2 fun xP=>
 Option.bind p0 fun vn=>
 ai fM vn.1 (vn.2+1) fun fk=>
 (gf [(.p p0),(.i .i64 fE),(.i .i64 (-1))] fM).bind fun gC=>
 (AV.aX .i64 gC.1).bind fun nR=>
 (aO (gC.2.ld qh.1 qh.2) (some (.p xP))).bind fun _=>
 (aO (gC.2.ld vn.1 (vn.2+1)) (some (.i .i64 fk))).bind fun _=>
 (eN [(.p xP),(.i .i64 fk),(.i .i64 nR),(.i .u64 1)] gC.2).bind fun fV=>
 (AV.aX .i64 fV.1).bind fun fm=>
 Option.bind p0 fun Lz=>
 ai fV.2 Lz.1 (Lz.2+6) fun eJ=>
 Option.bind p0 fun RD=>
 (fV.2.st RD.1 (RD.2+6) [(.i .i64 (IntKind.i64.wrap (eJ+1)))]).bind fun we=>
 some ((.aG [(.i .i64 fE),(.i .i64 0)]),we))
 else Option.bind p0 fun MO=>
 cV h MO.1 MO.2 fun Wt=>
 Option.bind p0 fun UI=>
 ai h UI.1 (UI.2+1) fun sL=>
 (gf [(.p p0),(.i .i64 n3),(.i .i64 0)] h).bind fun r35=>
 (AV.aX .i64 r35.1).bind fun qd=>
 (aO (r35.2.ld MO.1 MO.2) (some (.p Wt))).bind fun _=>
 (aO (r35.2.ld UI.1 (UI.2+1)) (some (.i .i64 sL))).bind fun _=>
 (eX [(.p Wt),(.i .i64 sL),(.i .i64 qd)] r35.2).bind fun Hc=>
 (AV.az 2 Hc.1).bind fun c38=>
 cf c38 0 fun vk=>
 au c38 1 fun Li=>
 Option.bind p0 fun UJ=>
 cV Hc.2 UJ.1 UJ.2 fun p43=>
 Option.bind p0 fun UD=>
 ai Hc.2 UD.1 (UD.2+1) fun G6=>
 (gf [(.p p0),(.i .i64 n3),(.i .i64 (-1))] Hc.2).bind fun HZ=>
 (AV.aX .i64 HZ.1).bind fun DN=>
 (aO (HZ.2.ld UJ.1 UJ.2) (some (.p p43))).bind fun _=>
 (aO (HZ.2.ld UD.1 (UD.2+1)) (some (.i .i64 G6))).bind fun _=>
 (eX [(.p p43),(.i .i64 G6),(.i .i64 DN)] HZ.2).bind fun B8=>
 (AV.az 2 B8.1).bind fun c50=>
 cf c50 0 fun Fj=>
 au c50 1 fun B4=>
 Option.bind p0 fun UK=>
 cV B8.2 UK.1 UK.2 fun p55=>
 Option.bind p0 fun q56=>
 ai B8.2 q56.1 (q56.2+1) fun H0=>
 (gf [(.p p0),(.i .i64 n3),(.i .i64 (-1))] B8.2).bind fun r59=>
 (AV.aX .i64 r59.1).bind fun B9=>
 (aO (r59.2.ld UK.1 UK.2) (some (.p p55))).bind fun _=>
 (aO (r59.2.ld q56.1 (q56.2+1)) (some (.i .i64 H0))).bind fun _=>
 (eN [(.p p55),(.i .i64 H0),(.i .i64 B9),(.i .u64 (bK .or .u64 Fj 1))] r59.2).bind fun qj=>
 (AV.aX .i64 qj.1).bind fun LB=>
 Option.bind p0 fun q63=>
 cV qj.2 q63.1 q63.2 fun p65=>
 Option.bind p0 fun q66=>
 ai qj.2 q66.1 (q66.2+1) fun Wu=>
 Option.bind p0 fun MP=>
 ai qj.2 MP.1 (MP.2+2) fun H3=>
 (gf [(.p p0),(.i .i64 n3),(.i .i64 0)] qj.2).bind fun DP=>
 (AV.aX .i64 DP.1).bind fun UL=>
 (aO (DP.2.ld q63.1 q63.2) (some (.p p65))).bind fun _=>
 (aO (DP.2.ld q66.1 (q66.2+1)) (some (.i .i64 Wu))).bind fun _=>
 (aO (DP.2.ld MP.1 (MP.2+2)) (some (.i .i64 H3))).bind fun _=>
 (Pp [(.p p65),(.i .i64 Wu),(.i .i64 UL),(.i .i64 H3)] DP.2).bind fun Fk=>
 (AV.aX .i64 Fk.1).bind fun RP=>
 Option.bind p0 fun q76=>
 (Fk.2.st q76.1 (q76.2+5) [(.i .i64 (IntKind.i64.wrap vk))]).bind fun h77=>
 Option.bind p0 fun q78=>
 ai h77 q78.1 (q78.2+6) fun n80=>
 Option.bind p0 fun q81=>
 (h77.st q81.1 (q81.2+6) [(.i .i64 (IntKind.i64.wrap (n80+1)))]).bind fun HX=>
 some ((.aG [(.i .i64 n3),(.i .i64 0)]),HX))
 else none
def Tq:Sm O:=qgh YC EJ yO yN HT
theorem qgj:ag Tryz.prog 129:=Tryz.call129
theorem qgk (Po gf eN eX Pp:Sm O):run (O:=O) Tryz.prog [(169,Po),(159,gf),(141,eN),(117,eX),(170,Pp)] Tryz.f129 (.n .z (.n .z (.n (.n .z (.n (.n (.n .z (.n .z (.n .z .z))) (.n .z (.n .z (.n (.d [] [0,1,2,3,4,5,6,7,8,9,10,11] [0,1,3,7,0,16,48,112,0,0,768,2047]) (.n .z .z))))) .z)) (.n (.d [] [0,1,2,3,4,5,6,7,8,9,10,11,12,13,14,15,16] [0,1,3,7,0,16,48,112,0,0,768,2047,4095,8191,8191,16383,65535]) (.n (.d [] [0,1,2,3,4,5,6,7,8,9,10,11,12,13,14,15,16] [0,1,3,7,0,16,48,112,0,0,768,2047,4095,8191,8191,16383,65535]) (.n (.d [] [0,1,2,3,4,5,6,7,8,9,11,12,10,13] [0,1,3,7,0,16,48,112,0,0,768,0,2048,8191]) (.n (.d [] [0,1,2,3,4,5,6,7,8,9,11,12,13,14,10,15] [0,1,3,7,0,16,48,112,0,0,768,0,2048,6144,14336,32767]) (.n .z (.n .z .z)))))))))=qgh Po gf eN eX Pp:=by kernel_rfl
theorem qgl:ah RO Tryz.prog 129 Tq:=bJ (qgk _ _ _ _ _) (ab qe5 qe7 <| ab qfa qfc <| ab UE UF <| ab UG UH <| ab qge qgg <| aJ) Tryz.func129 (by kernel_rfl)
def qgm:Sm O:=fun xs h=>
 bif Nat.beq xs.length 2 then
 (AV.bH (xs.getD 0 .u)).bind fun p0=>
 au xs 1 fun n1=>
 ((bif ((Option.isNone p0) == false) then
 some ([(.b (decide (n1<0)))],h)
 else some ([(.b true)],h)):Option (List AV × AH O)).bind fun r2=>
 (AV.aZ (r2.1.getD 0 .u)).bind fun b3=>
 (bif b3 then
 some ((.i .i64 1),r2.2)
 else Option.bind p0 fun q4=>
 ai r2.2 q4.1 (q4.2+4) fun n6=>
 (bif (decide (n1 > n6)) then
 some ((.i .i64 4),r2.2)
 else Option.bind p0 fun q7=>
 ai r2.2 q7.1 (q7.2+4) fun n9=>
 Option.bind p0 fun lO=>
 (r2.2.st lO.1 (lO.2+4) [(.i .i64 (IntKind.i64.wrap (n9 - n1)))]).bind fun hU=>
 some ((.i .i64 0),hU)))
 else none
def qgn:Sm O:=qgm
theorem qgo:ag Tryz.prog 167:=Tryz.call167
theorem qgp:run (O:=O) Tryz.prog [] Tryz.f167 (.n .z (.n (.n (.n (.g [(2,2,[(11,.one .b)])]) (.n .z (.n .z (.n .z .z)))) .z) (.n .z .z)))=qgm:=by kernel_rfl
theorem qgq:ah RO Tryz.prog 167 qgn:=bJ qgp (aJ) Tryz.func167 (by kernel_rfl)
def qgr (kY Pq:Sm O):Sm O:=fun xs h=>
 bif Nat.beq xs.length 2 then
 (AV.bH (xs.getD 0 .u)).bind fun p0=>
 au xs 1 fun n1=>
 (kY [(.p p0),(.i .i64 n1)] h).bind fun r2=>
 (AV.bH r2.1).bind fun p3=>
 (bif (Option.isNone p3) then
 some ((.i .i64 10),r2.2)
 else Option.bind p0 fun q4=>
 cV r2.2 q4.1 q4.2 fun p6=>
 Option.bind p3 fun q7=>
 aV r2.2 q7.1 q7.2 fun l9=>
 (Pq [(.p p6),(.i .i64 (l9.2:Int))] r2.2).bind fun ee=>
 (AV.aX .i64 ee.1).bind fun fc=>
 Option.bind p3 fun zj=>
 (ee.2.st zj.1 zj.2 [(.sl .nil 0),(.b false)]).bind fun lz=>
 Option.bind p0 fun qh=>
 ai lz qh.1 (qh.2+2) fun iy=>
 Option.bind p0 fun vn=>
 ai lz vn.1 (vn.2+3) fun fk=>
 Option.bind p0 fun RQ=>
 (lz.st RQ.1 (RQ.2+2) [(.i .i64 (if n1<iy then n1 else iy))]).bind fun He=>
 Option.bind p0 fun UM=>
 (He.st UM.1 (UM.2+3) [(.i .i64 (IntKind.i64.wrap (fk - 1)))]).bind fun MN=>
 some ((.i .i64 0),MN))
 else none
def Kt:Sm O:=qgr KN qgn
theorem qgt:ag Tryz.prog 126:=Tryz.call126
theorem qgu (kY Pq:Sm O):run (O:=O) Tryz.prog [(124,kY),(167,Pq)] Tryz.f126 (.n .z (.n .z (.n (.n .z (.n .z .z)) (.n (.d [] [0,1,2,3,4,5,6,7,8,9] [0,1,3,7,0,16,48,112,240,511]) (.n .z (.n (.d [] [0,1,2,3,4,5,6,7,8,9,10,11,12,13,14,15,16,17,18] [0,0,0,4,12,28,0,124,0,256,768,1792,3840,4093,12285,28669,65535,131071,262143]) .z))))))=qgr kY Pq:=by kernel_rfl
theorem qgv:ah RO Tryz.prog 126 Kt:=bJ (qgu _ _) (ab qev qex <| ab qgo qgq <| aJ) Tryz.func126 (by kernel_rfl)
def qgw (gf eX:Sm O):Sm O:=fun xs h=>
 bif Nat.beq xs.length 2 then
 (AV.bH (xs.getD 0 .u)).bind fun p0=>
 au xs 1 fun n1=>
 ((bif ((decide (n1<1)) == false) then
 Option.bind p0 fun q2=>
 ai h q2.1 (q2.2+3) fun n4=>
 some ([(.b (decide (n1 > n4)))],h)
 else some ([(.b true)],h)):Option (List AV × AH O)).bind fun r5=>
 (AV.aZ (r5.1.getD 0 .u)).bind fun b6=>
 (bif b6 then
 some ((.aG [(.i .u64 0),(.b false)]),r5.2)
 else Option.bind p0 fun q7=>
 cV r5.2 q7.1 q7.2 fun p9=>
 Option.bind p0 fun lO=>
 ai r5.2 lO.1 (lO.2+1) fun eB=>
 (gf [(.p p0),(.i .i64 n1),(.i .i64 (-1))] r5.2).bind fun fA=>
 (AV.aX .i64 fA.1).bind fun ig=>
 (aO (fA.2.ld q7.1 q7.2) (some (.p p9))).bind fun _=>
 (aO (fA.2.ld lO.1 (lO.2+1)) (some (.i .i64 eB))).bind fun _=>
 (eX [(.p p9),(.i .i64 eB),(.i .i64 ig)] fA.2).bind fun iw=>
 (AV.az 2 iw.1).bind fun vo=>
 cf vo 0 fun fq=>
 au vo 1 fun iM=>
 some ((.aG [(.i .u64 fq),(.b true)]),iw.2))
 else none
def YB:Sm O:=qgw EJ yN
theorem qgy:ag Tryz.prog 168:=Tryz.call168
theorem qgz (gf eX:Sm O):run (O:=O) Tryz.prog [(159,gf),(117,eX)] Tryz.f168 (.n .z (.n (.n (.g [(2,6,[(17,.one .b)])]) (.n .z .z)) (.n (.d [] [0,1,2,3,4,5,6,7,8,9,10,11,12,13,14,15,16] [0,1,3,7,0,16,48,112,0,0,768,2047,4095,8191,8191,16383,65535]) .z)))=qgw gf eX:=by kernel_rfl
theorem qg0:ah RO Tryz.prog 168 YB:=bJ (qgz _ _) (ab qfa qfc <| ab UG UH <| aJ) Tryz.func168 (by kernel_rfl)
def qg1 (zk:Sm O):Sm O:=fun xs h=>
 bif Nat.beq xs.length 2 then
 (AV.bH (xs.getD 0 .u)).bind fun p0=>
 au xs 1 fun n1=>
 (zk [(.p p0),(.i .i64 n1)] h).bind fun r2=>
 (AV.az 2 r2.1).bind fun c3=>
 cf c3 0 fun n4=>
 (AV.aZ (c3.getD 1 .u)).bind fun b5=>
 ((bif (b5 == true) then
 some ([(.b (((bK .and .u64 n4 1):Int) == 1))],r2.2)
 else some ([(.b false)],r2.2)):Option (List AV × AH O)).bind fun r6=>
 (AV.aZ (r6.1.getD 0 .u)).bind fun b7=>
 some ((.b b7),r6.2)
 else none
def qg2:Sm O:=qg1 YB
theorem qg3:ag Tryz.prog 172:=Tryz.call172
theorem qg4 (zk:Sm O):run (O:=O) Tryz.prog [(168,zk)] Tryz.f172 (.n .z (.n .z (.n (.g [(1,3,[(18,.one .b)])]) .z)))=qg1 zk:=by kernel_rfl
theorem qg5:ah RO Tryz.prog 172 qg2:=bJ (qg4 _) (ab qgy qg0 <| aJ) Tryz.func172 (by kernel_rfl)
def qg6 (Pr:Sm O):Sm O:=fun xs h=>
 bif Nat.beq xs.length 3 then
 (AV.bH (xs.getD 0 .u)).bind fun p0=>
 au xs 1 fun n1=>
 au xs 2 fun n2=>
 (Pr [(.p p0),(.i .i64 n1)] h).bind fun r3=>
 (AV.aZ r3.1).bind fun b4=>
 (bif (!b4) then
 some ((.i .i64 4),r3.2)
 else ((bif ((decide (n2<0)) == false) then
 Option.bind p0 fun q5=>
 ai r3.2 q5.1 (q5.2+2) fun n7=>
 some ([(.b (decide (n2>=n7)))],r3.2)
 else some ([(.b true)],r3.2)):Option (List AV × AH O)).bind fun r8=>
 (AV.aZ (r8.1.getD 0 .u)).bind fun b9=>
 (bif b9 then
 some ((.i .i64 32),r8.2)
 else some ((.i .i64 0),r8.2)))
 else none
def YG:Sm O:=qg6 qg2
theorem qg8:ag Tryz.prog 158:=Tryz.call158
theorem qg9 (Pr:Sm O):run (O:=O) Tryz.prog [(172,Pr)] Tryz.f158 (.n .z (.n (.n (.n .z (.n .z (.n (.g [(2,6,[(22,.one .b)])]) (.n .z .z)))) .z) .z))=qg6 Pr:=by kernel_rfl
theorem qha:ah RO Tryz.prog 158 YG:=bJ (qg9 _) (ab qg3 qg5 <| aJ) Tryz.func158 (by kernel_rfl)
def qhb (zl gf eN:Sm O):Sm O:=fun xs h=>
 bif Nat.beq xs.length 4 then
 (AV.bH (xs.getD 0 .u)).bind fun p0=>
 au xs 1 fun n1=>
 au xs 2 fun n2=>
 cf xs 3 fun n3=>
 (zl [(.p p0),(.i .i64 n1),(.i .i64 n2)] h).bind fun r4=>
 (AV.aX .i64 r4.1).bind fun n5=>
 (bif ((n5:Int) != 0) then
 some ((.i .i64 n5),r4.2)
 else Option.bind p0 fun q6=>
 cV r4.2 q6.1 q6.2 fun p8=>
 Option.bind p0 fun q9=>
 ai r4.2 q9.1 (q9.2+1) fun fc=>
 (gf [(.p p0),(.i .i64 n1),(.i .i64 n2)] r4.2).bind fun ij=>
 (AV.aX .i64 ij.1).bind fun fE=>
 (aO (ij.2.ld q6.1 q6.2) (some (.p p8))).bind fun _=>
 (aO (ij.2.ld q9.1 (q9.2+1)) (some (.i .i64 fc))).bind fun _=>
 (eN [(.p p8),(.i .i64 fc),(.i .i64 fE),(.i .u64 n3)] ij.2).bind fun ej=>
 (AV.aX .i64 ej.1).bind fun dU=>
 some ((.i .i64 dU),ej.2))
 else none
def YH:Sm O:=qhb YG EJ yO
theorem qhd:ag Tryz.prog 130:=Tryz.call130
theorem qhe (zl gf eN:Sm O):run (O:=O) Tryz.prog [(158,zl),(159,gf),(141,eN)] Tryz.f130 (.n .z (.n (.n .z (.n .z (.n .z .z))) (.n (.d [] [0,1,2,3,4,5,6,7,8,9,10,12,11,13,14] [0,1,3,7,0,16,48,112,0,0,0,1792,0,8191,16383]) .z)))=qhb zl gf eN:=by kernel_rfl
theorem qhf:ah RO Tryz.prog 130 YH:=bJ (qhe _ _ _) (ab qg8 qha <| ab qfa qfc <| ab UE UF <| aJ) Tryz.func130 (by kernel_rfl)
def qhg (qg:Sm O):Sm O:=fun xs h=>
 bif Nat.beq xs.length 3 then
 (AV.bH (xs.getD 0 .u)).bind fun p0=>
 au xs 1 fun n1=>
 au xs 2 fun n2=>
 let h3:=h.ax 1
 let h4:=h3.put h.next (.cells true 184 [(.p none),(.i .i64 0),(.i .i64 0),(.i .i64 0),(.i .i64 0)])
 Option.bind p0 fun q5=>
 cV h4 q5.1 q5.2 fun p7=>
 Option.bind p0 fun q8=>
 ai h4 q8.1 (q8.2+1) fun eu=>
 (qg [(.p p0)] h4).bind fun eM=>
 (AV.aX .i64 eM.1).bind fun eB=>
 (aO (eM.2.ld q5.1 q5.2) (some (.p p7))).bind fun _=>
 (aO (eM.2.ld q8.1 (q8.2+1)) (some (.i .i64 eu))).bind fun _=>
 (eM.2.st (.n h.next) 0 [(.p p7),(.i .i64 eu),(.i .i64 eB),(.i .i64 (IntKind.i64.wrap (n1+1))),(.i .i64 (IntKind.i64.wrap (n2+1)))]).bind fun lz=>
 cV lz (.n h.next) 0 fun LC=>
 ai lz (.n h.next) 1 fun fq=>
 ai lz (.n h.next) 2 fun fk=>
 ai lz (.n h.next) 3 fun nR=>
 ai lz (.n h.next) 4 fun fm=>
 some ((.agg [(.p LC),(.i .i64 fq),(.i .i64 fk),(.i .i64 nR),(.i .i64 fm)]),lz)
 else none
def qhh:Sm O:=qhg Q4
theorem qhi:ag Tryz.prog 147:=Tryz.call147
theorem qhj (qg:Sm O):run (O:=O) Tryz.prog [(176,qg)] Tryz.f147 (.n .z (.n (.d [] [0,1,2,3,4,5,6,7,8,10,11,12,13,9,14,15] [0,1,3,7,0,16,48,112,0,256,0,1024,0,4096,16383,32767]) .z))=qhg qg:=by kernel_rfl
theorem qhk:ah RO Tryz.prog 147 qhh:=bJ (qhj _) (ab qeq qes <| aJ) Tryz.func147 (by kernel_rfl)
def qhl (Ps:Sm O):Sm O:=fun xs h=>
 bif Nat.beq xs.length 1 then
 (AV.bH (xs.getD 0 .u)).bind fun p0=>
 let h1:=h.ax 1
 let h2:=h1.put h.next (.cells true 184 [(.p none),(.i .i64 0),(.i .i64 0),(.i .i64 0),(.i .i64 0)])
 Option.bind p0 fun q3=>
 cV h2 q3.1 (q3.2+1) fun p5=>
 (Ps [(.p p5),(.i .i64 2),(.i .i64 3)] h2).bind fun r6=>
 (AV.asAgg 5 r6.1).bind fun c7=>
 (AV.bH (c7.getD 0 .u)).bind fun p8=>
 au c7 1 fun n9=>
 au c7 2 fun eu=>
 au c7 3 fun fc=>
 au c7 4 fun eB=>
 (r6.2.st (.n h.next) 0 [(.p p8),(.i .i64 n9),(.i .i64 eu),(.i .i64 fc),(.i .i64 eB)]).bind fun lz=>
 cV lz (.n h.next) 0 fun LC=>
 ai lz (.n h.next) 1 fun fq=>
 ai lz (.n h.next) 2 fun fk=>
 ai lz (.n h.next) 3 fun nR=>
 ai lz (.n h.next) 4 fun fm=>
 some ((.agg [(.p LC),(.i .i64 fq),(.i .i64 fk),(.i .i64 nR),(.i .i64 fm)]),lz)
 else none
def Ou:Sm O:=qhl qhh
theorem qhn:ag Tryz.prog 100:=Tryz.call100
theorem qho (Ps:Sm O):run (O:=O) Tryz.prog [(147,Ps)] Tryz.f100 (.n .z .z)=qhl Ps:=by kernel_rfl
theorem qhp:ah RO Tryz.prog 100 Ou:=bJ (qho _) (ab qhi qhk <| aJ) Tryz.func100 (by kernel_rfl)
def qhq:Sm O:=fun xs h=>
 bif Nat.beq xs.length 2 then
 au xs 0 fun n0=>
 ((bif ((decide (n0>=0)) == true) then
 (AV.qz (xs.getD 1 .u)).bind fun q1=>
 ai h q1.1 (q1.2+2) fun n3=>
 some ([(.b (decide (n0<n3)))],h)
 else some ([(.b false)],h)):Option (List AV × AH O)).bind fun r4=>
 (AV.aZ (r4.1.getD 0 .u)).bind fun b5=>
 some ((.b b5),r4.2)
 else none
def qhr:Sm O:=qhq
theorem qhs:ag Tryz.prog 177:=Tryz.call177
theorem qht:run (O:=O) Tryz.prog [] Tryz.f177 (.n .z (.n (.g [(2,4,[(11,.one .b)])]) .z))=qhq:=by kernel_rfl
theorem qhu:ah RO Tryz.prog 177 qhr:=bJ qht (aJ) Tryz.func177 (by kernel_rfl)
def qhv (LD:Sm O):Sm O:=fun xs h=>
 bif Nat.beq xs.length 1 then
 (AV.asAgg 5 (xs.getD 0 .u)).bind fun c0=>
 (AV.bH (c0.getD 0 .u)).bind fun p1=>
 au c0 1 fun n2=>
 au c0 2 fun n3=>
 au c0 3 fun n4=>
 au c0 4 fun n5=>
 let h6:=h.ax 1
 let h7:=h6.put h.next (.cells true 184 [(.p p1),(.i .i64 n2),(.i .i64 n3),(.i .i64 n4),(.i .i64 n5)])
 cV h7 (.n h.next) 0 fun p9=>
 ((bif ((!(Option.isNone p9)) == true) then
 ai h7 (.n h.next) 2 fun fc=>
 some ([(.b (decide (fc>=2)))],h7)
 else some ([(.b false)],h7)):Option (List AV × AH O)).bind fun ij=>
 (AV.aZ (ij.1.getD 0 .u)).bind fun Pt=>
 ((bif (Pt == true) then
 ai ij.2 (.n h.next) 2 fun dU=>
 some ([(.b (decide (dU<=64)))],ij.2)
 else some ([(.b false)],ij.2)):Option (List AV × AH O)).bind fun gR=>
 (AV.aZ (gR.1.getD 0 .u)).bind fun Fh=>
 ((bif (Fh == true) then
 ai gR.2 (.n h.next) 3 fun fk=>
 (LD [(.i .i64 fk),(.p (some ((.n h.next),0)))] gR.2).bind fun gC=>
 (AV.aZ gC.1).bind fun MM=>
 some ([(.b MM)],gC.2)
 else some ([(.b false)],gR.2)):Option (List AV × AH O)).bind fun fV=>
 (AV.aZ (fV.1.getD 0 .u)).bind fun b23=>
 ((bif (b23 == true) then
 ai fV.2 (.n h.next) 4 fun qi=>
 (LD [(.i .i64 qi),(.p (some ((.n h.next),0)))] fV.2).bind fun nS=>
 (AV.aZ nS.1).bind fun b27=>
 some ([(.b b27)],nS.2)
 else some ([(.b false)],fV.2)):Option (List AV × AH O)).bind fun zM=>
 (AV.aZ (zM.1.getD 0 .u)).bind fun UN=>
 ((bif (UN == true) then
 ai zM.2 (.n h.next) 3 fun wg=>
 ai zM.2 (.n h.next) 4 fun Hf=>
 some ([(.b ((wg:Int) != Hf))],zM.2)
 else some ([(.b false)],zM.2)):Option (List AV × AH O)).bind fun Pu=>
 (AV.aZ (Pu.1.getD 0 .u)).bind fun b35=>
 some ((.b b35),Pu.2)
 else none
def VO:Sm O:=qhv qhr
theorem qhx:ag Tryz.prog 148:=Tryz.call148
theorem qhy (LD:Sm O):run (O:=O) Tryz.prog [(177,LD)] Tryz.f148 (.n .z (.n .z (.n (.g [(3,3,[(12,.one .b)]),(8,3,[(17,.one .b)]),(13,4,[(23,.one .b)]),(19,4,[(29,.one .b)]),(25,5,[(36,.one .b)])]) .z)))=qhv LD:=by kernel_rfl
theorem qhz:ah RO Tryz.prog 148 VO:=bJ (qhy _) (ab qhs qhu <| aJ) Tryz.func148 (by kernel_rfl)
def qh0 (kY:Sm O):Sm O:=fun xs h=>
 bif Nat.beq xs.length 2 then
 (AV.bH (xs.getD 0 .u)).bind fun p0=>
 au xs 1 fun n1=>
 (kY [(.p p0),(.i .i64 n1)] h).bind fun r2=>
 (AV.bH r2.1).bind fun p3=>
 (bif (Option.isNone p3) then
 some ((.aG [(.i .i64 0),(.i .i64 10)]),r2.2)
 else Option.bind p3 fun q4=>
 aV r2.2 q4.1 q4.2 fun l6=>
 some ((.aG [(.i .i64 (l6.2:Int)),(.i .i64 0)]),r2.2))
 else none
def Wf:Sm O:=qh0 KN
theorem qh2:ag Tryz.prog 74:=Tryz.call74
theorem qh3 (kY:Sm O):run (O:=O) Tryz.prog [(124,kY)] Tryz.f74 (.n .z (.n .z (.n (.n .z (.n .z .z)) .z)))=qh0 kY:=by kernel_rfl
theorem qh4:ah RO Tryz.prog 74 Wf:=bJ (qh3 _) (ab qev qex <| aJ) Tryz.func74 (by kernel_rfl)
def qh5 (qk Pv:Sm O):Sm O:=fun xs h=>
 bif Nat.beq xs.length 1 then
 (AV.asAgg 5 (xs.getD 0 .u)).bind fun c0=>
 (AV.bH (c0.getD 0 .u)).bind fun p1=>
 au c0 1 fun n2=>
 au c0 2 fun n3=>
 au c0 3 fun n4=>
 au c0 4 fun n5=>
 let h6:=h.ax 1
 let h7:=h6.put h.next (.cells true 184 [(.p p1),(.i .i64 n2),(.i .i64 n3),(.i .i64 n4),(.i .i64 n5)])
 cV h7 (.n h.next) 0 fun p9=>
 ai h7 (.n h.next) 1 fun fc=>
 ai h7 (.n h.next) 2 fun fE=>
 ai h7 (.n h.next) 3 fun dU=>
 ai h7 (.n h.next) 4 fun fq=>
 (qk [(.agg [(.p p9),(.i .i64 fc),(.i .i64 fE),(.i .i64 dU),(.i .i64 fq)])] h7).bind fun jn=>
 (AV.aZ jn.1).bind fun b19=>
 (bif (!b19) then
 some ((.i .i64 0),jn.2)
 else cV jn.2 (.n h.next) 0 fun Wv=>
 ai jn.2 (.n h.next) 1 fun fm=>
 (Pv [(.p Wv),(.i .i64 fm)] jn.2).bind fun kV=>
 (AV.az 2 kV.1).bind fun c25=>
 au c25 0 fun eJ=>
 au c25 1 fun qy=>
 ai kV.2 (.n h.next) 2 fun xO=>
 (bif (xO == 0) then
 none
 else some ((.i .i64 (IntKind.i64.wrap (Int.tdiv eJ xO))),kV.2)))
 else none
def qh6:Sm O:=qh5 VO Wf
theorem qh7:ag Tryz.prog 182:=Tryz.call182
theorem qh8 (qk Pv:Sm O):run (O:=O) Tryz.prog [(148,qk),(74,Pv)] Tryz.f182 (.n .z (.n (.n .z (.n .z .z)) (.n .z .z)))=qh5 qk Pv:=by kernel_rfl
theorem qh9:ah RO Tryz.prog 182 qh6:=bJ (qh8 _ _) (ab qhx qhz <| ab qh2 qh4 <| aJ) Tryz.func182 (by kernel_rfl)
def qia (qk Pw:Sm O):Sm O:=fun xs h=>
 bif Nat.beq xs.length 2 then
 (AV.asAgg 5 (xs.getD 0 .u)).bind fun c0=>
 (AV.bH (c0.getD 0 .u)).bind fun p1=>
 au c0 1 fun n2=>
 au c0 2 fun n3=>
 au c0 3 fun n4=>
 au c0 4 fun n5=>
 au xs 1 fun n6=>
 let h7:=h.ax 1
 let h8:=h7.put h.next (.cells true 184 [(.p p1),(.i .i64 n2),(.i .i64 n3),(.i .i64 n4),(.i .i64 n5)])
 cV h8 (.n h.next) 0 fun vm=>
 ai h8 (.n h.next) 1 fun eB=>
 ai h8 (.n h.next) 2 fun ig=>
 ai h8 (.n h.next) 3 fun iy=>
 ai h8 (.n h.next) 4 fun iM=>
 (qk [(.agg [(.p vm),(.i .i64 eB),(.i .i64 ig),(.i .i64 iy),(.i .i64 iM)])] h8).bind fun gY=>
 (AV.aZ gY.1).bind fun UB=>
 (bif (!UB) then
 some ((.i .i64 1),gY.2)
 else ((bif ((decide (n6<1)) == false) then
 cV gY.2 (.n h.next) 0 fun UO=>
 ai gY.2 (.n h.next) 1 fun np=>
 ai gY.2 (.n h.next) 2 fun eJ=>
 ai gY.2 (.n h.next) 3 fun nq=>
 ai gY.2 (.n h.next) 4 fun lN=>
 (Pw [(.agg [(.p UO),(.i .i64 np),(.i .i64 eJ),(.i .i64 nq),(.i .i64 lN)])] gY.2).bind fun Px=>
 (AV.aX .i64 Px.1).bind fun nu=>
 some ([(.b (decide (n6 > nu)))],Px.2)
 else some ([(.b true)],gY.2)):Option (List AV × AH O)).bind fun lL=>
 (AV.aZ (lL.1.getD 0 .u)).bind fun b34=>
 (bif b34 then
 some ((.i .i64 2),lL.2)
 else some ((.i .i64 0),lL.2)))
 else none
def VP:Sm O:=qia VO qh6
theorem qic:ag Tryz.prog 165:=Tryz.call165
theorem qid (qk Pw:Sm O):run (O:=O) Tryz.prog [(148,qk),(182,Pw)] Tryz.f165 (.n .z (.n (.n (.n .z (.n .z (.n (.g [(2,4,[(17,.one .b)])]) (.n .z .z)))) .z) .z))=qia qk Pw:=by kernel_rfl
theorem qie:ah RO Tryz.prog 165 VP:=bJ (qid _ _) (ab qhx qhz <| ab qh7 qh9 <| aJ) Tryz.func165 (by kernel_rfl)
def qif:Sm O:=fun xs h=>
 bif Nat.beq xs.length 3 then
 (AV.asAgg 5 (xs.getD 0 .u)).bind fun c0=>
 (AV.bH (c0.getD 0 .u)).bind fun p1=>
 au c0 1 fun n2=>
 au c0 2 fun n3=>
 au c0 3 fun n4=>
 au c0 4 fun n5=>
 au xs 1 fun n6=>
 au xs 2 fun n7=>
 let h8:=h.ax 1
 let h9:=h8.put h.next (.cells true 184 [(.p p1),(.i .i64 n2),(.i .i64 n3),(.i .i64 n4),(.i .i64 n5)])
 ai h9 (.n h.next) 2 fun fc=>
 let v12:Int:=(IntKind.i64.wrap ((IntKind.i64.wrap (n6 - 1))*fc))
 some ((.i .i64 (IntKind.i64.wrap (v12+n7))),h9)
 else none
def YI:Sm O:=qif
theorem qih:ag Tryz.prog 178:=Tryz.call178
theorem qii:run (O:=O) Tryz.prog [] Tryz.f178 (.n .z .z)=qif:=by kernel_rfl
theorem qij:ah RO Tryz.prog 178 YI:=bJ qii (aJ) Tryz.func178 (by kernel_rfl)
def qik (zm eN:Sm O):Sm O:=fun xs h=>
 bif Nat.beq xs.length 4 then
 (AV.asAgg 5 (xs.getD 0 .u)).bind fun c0=>
 (AV.bH (c0.getD 0 .u)).bind fun p1=>
 au c0 1 fun n2=>
 au c0 2 fun n3=>
 au c0 3 fun n4=>
 au c0 4 fun n5=>
 au xs 1 fun n6=>
 au xs 2 fun n7=>
 au xs 3 fun n8=>
 let h9:=h.ax 1
 let fM:=h9.put h.next (.cells true 184 [(.p p1),(.i .i64 n2),(.i .i64 n3),(.i .i64 n4),(.i .i64 n5)])
 cV fM (.n h.next) 0 fun Fg=>
 ai fM (.n h.next) 1 fun ig=>
 cV fM (.n h.next) 0 fun xP=>
 ai fM (.n h.next) 1 fun iM=>
 ai fM (.n h.next) 2 fun jK=>
 ai fM (.n h.next) 3 fun gZ=>
 ai fM (.n h.next) 4 fun np=>
 (zm [(.agg [(.p xP),(.i .i64 iM),(.i .i64 jK),(.i .i64 gZ),(.i .i64 np)]),(.i .i64 n6),(.i .i64 n7)] fM).bind fun ft=>
 (AV.aX .i64 ft.1).bind fun eJ=>
 (aO (ft.2.ld (.n h.next) 0) (some (.p Fg))).bind fun _=>
 (aO (ft.2.ld (.n h.next) 1) (some (.i .i64 ig))).bind fun _=>
 (eN [(.p Fg),(.i .i64 ig),(.i .i64 eJ),(.i .u64 (IntKind.u64.wrap n8))] ft.2).bind fun mK=>
 (AV.aX .i64 mK.1).bind fun nq=>
 some ((.aG []),mK.2)
 else none
def VQ:Sm O:=qik YI yO
theorem qim:ag Tryz.prog 149:=Tryz.call149
theorem qin (zm eN:Sm O):run (O:=O) Tryz.prog [(178,zm),(141,eN)] Tryz.f149 (.n .z (.d [] [0,1,2,3,4,5,6,8,9,7,10] [0,1,0,4,0,0,0,112,0,256,1023]))=qik zm eN:=by kernel_rfl
theorem qio:ah RO Tryz.prog 149 VQ:=bJ (qin _ _) (ab qih qij <| ab UE UF <| aJ) Tryz.func149 (by kernel_rfl)
def qip (qm lM:Sm O):Sm O:=fun xs h=>
 bif Nat.beq xs.length 3 then
 (AV.asAgg 5 (xs.getD 0 .u)).bind fun c0=>
 (AV.bH (c0.getD 0 .u)).bind fun p1=>
 au c0 1 fun n2=>
 au c0 2 fun n3=>
 au c0 3 fun n4=>
 au c0 4 fun n5=>
 (AV.asAgg 3 (xs.getD 1 .u)).bind fun c6=>
 au c6 0 fun n7=>
 au c6 1 fun n8=>
 au c6 2 fun n9=>
 au xs 2 fun eu=>
 let hU:=h.ax 3
 let mO:=hU.put h.next (.cells true 184 [(.p p1),(.i .i64 n2),(.i .i64 n3),(.i .i64 n4),(.i .i64 n5)])
 let lz:=mO.put (h.next+1) (.cells true 155 [(.i .i64 n7),(.i .i64 n8),(.i .i64 n9)])
 let nC:=lz.put ((h.next+1)+1) (.cells true 155 [(.i .i64 0),(.i .i64 0),(.i .i64 0)])
 cV nC (.n h.next) 0 fun xP=>
 ai nC (.n h.next) 1 fun iM=>
 ai nC (.n h.next) 2 fun jK=>
 ai nC (.n h.next) 3 fun gZ=>
 ai nC (.n h.next) 4 fun np=>
 (qm [(.agg [(.p xP),(.i .i64 iM),(.i .i64 jK),(.i .i64 gZ),(.i .i64 np)]),(.i .i64 eu)] nC).bind fun ft=>
 (AV.aX .i64 ft.1).bind fun eJ=>
 (bif ((eJ:Int) != 0) then
 ai ft.2 (.n (h.next+1)) 0 fun nq=>
 ai ft.2 (.n (h.next+1)) 1 fun lN=>
 ai ft.2 (.n (h.next+1)) 2 fun nu=>
 (ft.2.st (.n ((h.next+1)+1)) 0 [(.i .i64 nq),(.i .i64 lN),(.i .i64 nu)]).bind fun sM=>
 ai sM (.n ((h.next+1)+1)) 0 fun zn=>
 ai sM (.n ((h.next+1)+1)) 1 fun B7=>
 ai sM (.n ((h.next+1)+1)) 2 fun vk=>
 some ((.aG [(.agg [(.i .i64 zn),(.i .i64 B7),(.i .i64 vk)]),(.i .i64 eJ)]),sM)
 else cV ft.2 (.n h.next) 0 fun Ww=>
 ai ft.2 (.n h.next) 1 fun vC=>
 ai ft.2 (.n h.next) 2 fun tB=>
 ai ft.2 (.n h.next) 3 fun Hg=>
 ai ft.2 (.n h.next) 4 fun sn=>
 ai ft.2 (.n h.next) 4 fun Fj=>
 ai ft.2 (.n (h.next+1)) 1 fun MQ=>
 (lM [(.agg [(.p Ww),(.i .i64 vC),(.i .i64 tB),(.i .i64 Hg),(.i .i64 sn)]),(.i .i64 eu),(.i .i64 Fj),(.i .i64 MQ)] ft.2).bind fun ze=>
 (AV.az 0 ze.1).bind fun DQ=>
 cV ze.2 (.n h.next) 0 fun p57=>
 ai ze.2 (.n h.next) 1 fun DR=>
 ai ze.2 (.n h.next) 2 fun MJ=>
 ai ze.2 (.n h.next) 3 fun RR=>
 ai ze.2 (.n h.next) 4 fun H'=>
 ai ze.2 (.n h.next) 3 fun Ia=>
 (lM [(.agg [(.p p57),(.i .i64 DR),(.i .i64 MJ),(.i .i64 RR),(.i .i64 H')]),(.i .i64 eu),(.i .i64 Ia),(.i .i64 0)] ze.2).bind fun Fl=>
 (AV.az 0 Fl.1).bind fun c69=>
 ai Fl.2 (.n (h.next+1)) 2 fun H3=>
 (bif ((H3:Int) == 0) then
 (Fl.2.st (.n ((h.next+1)+1)) 0 [(.i .i64 eu),(.i .i64 eu),(.i .i64 1)]).bind fun Py=>
 ai Py (.n ((h.next+1)+1)) 0 fun Hh=>
 ai Py (.n ((h.next+1)+1)) 1 fun Bw=>
 ai Py (.n ((h.next+1)+1)) 2 fun LF=>
 some ((.aG [(.agg [(.i .i64 Hh),(.i .i64 Bw),(.i .i64 LF)]),(.i .i64 0)]),Py)
 else cV Fl.2 (.n h.next) 0 fun p80=>
 ai Fl.2 (.n h.next) 1 fun Pz=>
 ai Fl.2 (.n h.next) 2 fun Ib=>
 ai Fl.2 (.n h.next) 3 fun UP=>
 ai Fl.2 (.n h.next) 4 fun HY=>
 ai Fl.2 (.n (h.next+1)) 1 fun Wx=>
 ai Fl.2 (.n h.next) 3 fun Lj=>
 (lM [(.agg [(.p p80),(.i .i64 Pz),(.i .i64 Ib),(.i .i64 UP),(.i .i64 HY)]),(.i .i64 Wx),(.i .i64 Lj),(.i .i64 eu)] Fl.2).bind fun RT=>
 (AV.az 0 RT.1).bind fun c94=>
 ai RT.2 (.n (h.next+1)) 0 fun Ca=>
 ai RT.2 (.n (h.next+1)) 2 fun n98=>
 (RT.2.st (.n ((h.next+1)+1)) 0 [(.i .i64 Ca),(.i .i64 eu),(.i .i64 (IntKind.i64.wrap (n98+1)))]).bind fun h99=>
 ai h99 (.n ((h.next+1)+1)) 0 fun zp=>
 ai h99 (.n ((h.next+1)+1)) 1 fun LG=>
 ai h99 (.n ((h.next+1)+1)) 2 fun zq=>
 some ((.aG [(.agg [(.i .i64 zp),(.i .i64 LG),(.i .i64 zq)]),(.i .i64 0)]),h99)))
 else none
def YK:Sm O:=qip VP VQ
theorem qir:ag Tryz.prog 132:=Tryz.call132
theorem qis (qm lM:Sm O):run (O:=O) Tryz.prog [(165,qm),(149,lM)] Tryz.f132 (.n .z (.n (.n .z (.n .z (.n .z .z))) (.n .z (.n .z (.n (.n .z (.n .z .z)) (.n .z .z))))))=qip qm lM:=by kernel_rfl
theorem qit:ah RO Tryz.prog 132 YK:=bJ (qis _ _) (ab qic qie <| ab qim qio <| aJ) Tryz.func132 (by kernel_rfl)
def qiu (zf PA nE vp gD zr:Sm O):Sm O:=fun xs h=>
 bif Nat.beq xs.length 2 then
 (AV.bH (xs.getD 0 .u)).bind fun p0=>
 au xs 1 fun n1=>
 (bif (decide (n1<1)) then
 some ((.aG [(.i .i64 0),(.i .i64 1)]),h)
 else Option.bind p0 fun q2=>
 cV h q2.1 q2.2 fun p4=>
 (zf [(.p p4),(.i .i64 n1)] h).bind fun r5=>
 (AV.az 2 r5.1).bind fun c6=>
 au c6 0 fun n7=>
 au c6 1 fun n8=>
 (bif ((n8:Int) != 0) then
 some ((.aG [(.i .i64 0),(.i .i64 n8)]),r5.2)
 else Option.bind p0 fun q9=>
 cV r5.2 q9.1 (q9.2+1) fun RU=>
 (PA [(.p RU)] r5.2).bind fun ij=>
 (AV.az 2 ij.1).bind fun Fm=>
 au Fm 0 fun ig=>
 au Fm 1 fun dU=>
 (bif ((dU:Int) != 0) then
 Option.bind p0 fun RB=>
 cV ij.2 RB.1 RB.2 fun p18=>
 (nE [(.p p18),(.i .i64 n7)] ij.2).bind fun gY=>
 (AV.aX .i64 gY.1).bind fun jK=>
 some ((.aG [(.i .i64 0),(.i .i64 dU)]),gY.2)
 else Option.bind p0 fun RK=>
 cV ij.2 RK.1 (RK.2+1) fun p23=>
 (vp [(.p p23),(.i .i64 ig),(.i .i64 0),(.i .u64 (IntKind.u64.wrap n7))] ij.2).bind fun kV=>
 (AV.aX .i64 kV.1).bind fun qi=>
 Option.bind p0 fun RM=>
 cV kV.2 RM.1 (RM.2+1) fun p28=>
 (vp [(.p p28),(.i .i64 ig),(.i .i64 1),(.i .u64 (IntKind.u64.wrap n1))] kV.2).bind fun jC=>
 (AV.aX .i64 jC.1).bind fun lN=>
 Option.bind p0 fun zN=>
 cV jC.2 zN.1 (zN.2+1) fun p33=>
 Option.bind p0 fun oK=>
 cQ jC.2 oK.1 (oK.2+8) fun qd=>
 (vp [(.p p33),(.i .i64 ig),(.i .i64 4),(.i .u64 qd)] jC.2).bind fun Hc=>
 (AV.aX .i64 Hc.1).bind fun Lh=>
 Option.bind p0 fun xR=>
 ai Hc.2 xR.1 (xR.2+2) fun Hi=>
 ai Hc.2 xR.1 ((xR.2+2)+1) fun vC=>
 ai Hc.2 xR.1 (((xR.2+2)+1)+1) fun tB=>
 (gD [(.p p0)] Hc.2).bind fun RV=>
 (AV.asAgg 5 RV.1).bind fun Hj=>
 (AV.bH (Hj.getD 0 .u)).bind fun p48=>
 au Hj 1 fun sn=>
 au Hj 2 fun zb=>
 au Hj 3 fun Fj=>
 au Hj 4 fun B4=>
 (aO (RV.2.ld xR.1 (xR.2+2)) (some (.i .i64 Hi))).bind fun _=>
 (aO (RV.2.ld xR.1 ((xR.2+2)+1)) (some (.i .i64 vC))).bind fun _=>
 (aO (RV.2.ld xR.1 (((xR.2+2)+1)+1)) (some (.i .i64 tB))).bind fun _=>
 (zr [(.agg [(.p p48),(.i .i64 sn),(.i .i64 zb),(.i .i64 Fj),(.i .i64 B4)]),(.agg [(.i .i64 Hi),(.i .i64 vC),(.i .i64 tB)]),(.i .i64 ig)] RV.2).bind fun r53=>
 (AV.az 2 r53.1).bind fun c54=>
 (AV.asAgg 3 (c54.getD 0 .u)).bind fun DQ=>
 au DQ 0 fun BD=>
 au DQ 1 fun G0=>
 au DQ 2 fun H0=>
 au c54 1 fun DR=>
 Option.bind p0 fun q60=>
 (r53.2.st q60.1 (q60.2+2) [(.i .i64 BD),(.i .i64 G0),(.i .i64 H0)]).bind fun h61=>
 Option.bind p0 fun q62=>
 ai h61 q62.1 (q62.2+10) fun Ba=>
 Option.bind p0 fun q65=>
 (h61.st q65.1 (q65.2+10) [(.i .i64 (IntKind.i64.wrap (Ba+n1)))]).bind fun MR=>
 some ((.aG [(.i .i64 ig),(.i .i64 0)]),MR))))
 else none
def qiv:Sm O:=qiu B2 Tq Kt YH Ou YK
theorem qiw:ag Tryz.prog 88:=Tryz.call88
theorem qix (zf PA nE vp gD zr:Sm O):run (O:=O) Tryz.prog [(99,zf),(129,PA),(126,nE),(130,vp),(100,gD),(132,zr)] Tryz.f88 (.n .z (.n (.n .z (.n .z .z)) (.n .z (.n (.n .z (.n .z .z)) (.n .z (.n (.n .z (.n (.n .z .z) .z)) (.n .z (.n .z (.n (.d [] [0,1,2,3,4,5,6,7,8,9] [0,1,3,7,0,0,32,96,224,511]) (.n (.d [] [0,1,3,4,5,6,7,2,8,9,10,11,12,13,14] [0,0,2,0,8,24,56,0,254,510,1022,1022,2047,6143,14335]) (.n .z .z)))))))))))=qiu zf PA nE vp gD zr:=by kernel_rfl
theorem qiy:ah RO Tryz.prog 88 qiv:=bJ (qix _ _ _ _ _ _) (ab qbl qbn <| ab qgj qgl <| ab qgt qgv <| ab qhd qhf <| ab qhn qhp <| ab qir qit <| aJ) Tryz.func88 (by kernel_rfl)
def qiz (zl gf eX:Sm O):Sm O:=fun xs h=>
 bif Nat.beq xs.length 3 then
 (AV.bH (xs.getD 0 .u)).bind fun p0=>
 au xs 1 fun n1=>
 au xs 2 fun n2=>
 (zl [(.p p0),(.i .i64 n1),(.i .i64 n2)] h).bind fun r3=>
 (AV.aX .i64 r3.1).bind fun n4=>
 (bif ((n4:Int) != 0) then
 some ((.aG [(.i .u64 0),(.i .i64 n4)]),r3.2)
 else Option.bind p0 fun q5=>
 cV r3.2 q5.1 q5.2 fun p7=>
 Option.bind p0 fun q8=>
 ai r3.2 q8.1 (q8.2+1) fun eu=>
 (gf [(.p p0),(.i .i64 n1),(.i .i64 n2)] r3.2).bind fun eM=>
 (AV.aX .i64 eM.1).bind fun eB=>
 (aO (eM.2.ld q5.1 q5.2) (some (.p p7))).bind fun _=>
 (aO (eM.2.ld q8.1 (q8.2+1)) (some (.i .i64 eu))).bind fun _=>
 (eX [(.p p7),(.i .i64 eu),(.i .i64 eB)] eM.2).bind fun fA=>
 (AV.az 2 fA.1).bind fun Cb=>
 cf Cb 0 fun dU=>
 au Cb 1 fun iy=>
 some ((.aG [(.i .u64 dU),(.i .i64 iy)]),fA.2))
 else none
def Q5:Sm O:=qiz YG EJ yN
theorem qi1:ag Tryz.prog 119:=Tryz.call119
theorem qi2 (zl gf eX:Sm O):run (O:=O) Tryz.prog [(158,zl),(159,gf),(117,eX)] Tryz.f119 (.n .z (.n (.n .z (.n .z (.n .z .z))) (.n (.d [] [0,1,2,3,4,5,6,7,8,9,10,11,12,13,14,15,16] [0,1,3,7,0,16,48,112,0,0,0,1792,4095,8191,8191,32767,65535]) .z)))=qiz zl gf eX:=by kernel_rfl
theorem qi3:ah RO Tryz.prog 119 Q5:=bJ (qi2 _ _ _) (ab qg8 qha <| ab qfa qfc <| ab UG UH <| aJ) Tryz.func119 (by kernel_rfl)
def qi4 (js eN:Sm O):Sm O:=fun xs h=>
 bif Nat.beq xs.length 4 then
 (AV.bH (xs.getD 0 .u)).bind fun p0=>
 au xs 1 fun n1=>
 au xs 2 fun n2=>
 cf xs 3 fun n3=>
 Option.bind p0 fun q4=>
 cV h q4.1 (q4.2+1) fun p6=>
 (js [(.p p6),(.i .i64 n1),(.i .i64 0)] h).bind fun r7=>
 (AV.az 2 r7.1).bind fun c8=>
 cf c8 0 fun n9=>
 au c8 1 fun eu=>
 (bif ((eu:Int) != 0) then
 some ((.i .i64 eu),r7.2)
 else Option.bind p0 fun Ha=>
 cV r7.2 Ha.1 Ha.2 fun p13=>
 (eN [(.p p13),(.i .i64 (IntKind.i64.wrap n9)),(.i .i64 n2),(.i .u64 n3)] r7.2).bind fun ej=>
 (AV.aX .i64 ej.1).bind fun dU=>
 some ((.i .i64 dU),ej.2))
 else none
def Re:Sm O:=qi4 Q5 yO
theorem qi6:ag Tryz.prog 90:=Tryz.call90
theorem qi7 (js eN:Sm O):run (O:=O) Tryz.prog [(119,js),(141,eN)] Tryz.f90 (.n .z (.n .z (.n (.n .z (.n .z .z)) .z)))=qi4 js eN:=by kernel_rfl
theorem qi8:ah RO Tryz.prog 90 Re:=bJ (qi7 _ _) (ab qi1 qi3 <| ab UE UF <| aJ) Tryz.func90 (by kernel_rfl)
def qi9:Sm O:=fun xs h=>
 bif Nat.beq xs.length 1 then
 au xs 0 fun n0=>
 ((bif ((decide (n0<1)) == false) then
 some ([(.b (decide (n0 > 1048576)))],h)
 else some ([(.b true)],h)):Option (List AV × AH O)).bind fun r1=>
 (AV.aZ (r1.1.getD 0 .u)).bind fun b2=>
 (bif b2 then
 some ((.aG [(.i .u64 0),(.i .i64 2)]),r1.2)
 else let v3:Int:=(IntKind.u64.wrap ((IntKind.u64.wrap n0)*2 ^ 1))
 some ((.aG [(.i .u64 v3),(.i .i64 0)]),r1.2))
 else none
def Za:Sm O:=qi9
theorem qjb:ag Tryz.prog 91:=Tryz.call91
theorem qjc:run (O:=O) Tryz.prog [] Tryz.f91 (.n .z (.n (.n (.g [(2,2,[(9,.one .b)])]) (.n .z .z)) .z))=qi9:=by kernel_rfl
theorem qjd:ah RO Tryz.prog 91 Za:=bJ qjc (aJ) Tryz.func91 (by kernel_rfl)
def qje (Pv:Sm O):Sm O:=fun xs h=>
 bif Nat.beq xs.length 1 then
 (AV.bH (xs.getD 0 .u)).bind fun p0=>
 Option.bind p0 fun q1=>
 cV h q1.1 q1.2 fun p3=>
 Option.bind p0 fun q4=>
 ai h q4.1 (q4.2+1) fun n6=>
 (Pv [(.p p3),(.i .i64 n6)] h).bind fun r7=>
 (AV.az 2 r7.1).bind fun c8=>
 au c8 0 fun n9=>
 au c8 1 fun eu=>
 some ((.i .i64 n9),r7.2)
 else none
def Y8:Sm O:=qje Wf
theorem qjg:ag Tryz.prog 34:=Tryz.call34
theorem qjh (Pv:Sm O):run (O:=O) Tryz.prog [(74,Pv)] Tryz.f34 (.n .z (.n (.d [] [0,1,2,3,4,5,6,7,8,9,10,11,12,13,14] [0,1,3,7,0,16,48,112,240,511,1023,2047,2047,4095,16383]) .z))=qje Pv:=by kernel_rfl
theorem qji:ah RO Tryz.prog 34 Y8:=bJ (qjh _) (ab qh2 qh4 <| aJ) Tryz.func34 (by kernel_rfl)
def qjj (MS:Sm O):Sm O:=fun xs h=>
 bif Nat.beq xs.length 1 then
 (AV.bH (xs.getD 0 .u)).bind fun p0=>
 Option.bind p0 fun q1=>
 ai h q1.1 ((q1.2+1)+1) fun n3=>
 (MS [(.p p0)] h).bind fun r4=>
 (AV.aX .i64 r4.1).bind fun n5=>
 (aO (r4.2.ld q1.1 ((q1.2+1)+1)) (some (.i .i64 n3))).bind fun _=>
 some ((.i .i64 (IntKind.i64.wrap (n5 - n3))),r4.2)
 else none
def qjk:Sm O:=qjj Y8
theorem qjl:ag Tryz.prog 142:=Tryz.call142
theorem qjm (MS:Sm O):run (O:=O) Tryz.prog [(34,MS)] Tryz.f142 (.n .z (.n (.d [] [0,2,3,4,5,6,1,7,8] [0,1,0,4,12,28,60,127,255]) .z))=qjj MS:=by kernel_rfl
theorem qjn:ah RO Tryz.prog 142 qjk:=bJ (qjm _) (ab qjg qji <| aJ) Tryz.func142 (by kernel_rfl)
def qjo (PB:Sm O):Sm O:=fun xs h=>
 bif Nat.beq xs.length 2 then
 (AV.bH (xs.getD 0 .u)).bind fun p0=>
 au xs 1 fun n1=>
 (bif (decide (n1<1)) then
 some ((.aG [(.i .i64 0),(.i .i64 1)]),h)
 else (PB [(.p p0)] h).bind fun r2=>
 (AV.aX .i64 r2.1).bind fun n3=>
 (bif (decide (n1 > n3)) then
 some ((.aG [(.i .i64 0),(.i .i64 3)]),r2.2)
 else Option.bind p0 fun q4=>
 ai r2.2 q4.1 ((q4.2+1)+1) fun n6=>
 Option.bind p0 fun q7=>
 ai r2.2 q7.1 ((q7.2+1)+1) fun n9=>
 Option.bind p0 fun lO=>
 (r2.2.st lO.1 ((lO.2+1)+1) [(.i .i64 (IntKind.i64.wrap (n9+n1)))]).bind fun hU=>
 some ((.aG [(.i .i64 n6),(.i .i64 0)]),hU)))
 else none
def Y9:Sm O:=qjo qjk
theorem qjq:ag Tryz.prog 92:=Tryz.call92
theorem qjr (PB:Sm O):run (O:=O) Tryz.prog [(142,PB)] Tryz.f92 (.n .z (.n (.n (.n .z (.n .z (.n .z (.n .z .z)))) .z) (.n .z (.n .z .z))))=qjo PB:=by kernel_rfl
theorem qjs:ah RO Tryz.prog 92 Y9:=bJ (qjr _) (ab qjl qjn <| aJ) Tryz.func92 (by kernel_rfl)
def VZ:Sm O:=fun xs h=>
 bif Nat.beq xs.length 3 then
 (AV.asAgg 2 (xs.getD 0 .u)).bind fun c0=>
 au c0 0 fun n1=>
 au c0 1 fun n2=>
 au xs 1 fun n3=>
 au xs 2 fun n4=>
 let h5:=h.ax 1
 let h6:=h5.put h.next (.cells true 133 [(.i .i64 n1),(.i .i64 n2)])
 ((bif ((decide (n4>=0)) == true) then
 some ([(.b (decide (n3>=0)))],h6)
 else some ([(.b false)],h6)):Option (List AV × AH O)).bind fun r7=>
 (AV.aZ (r7.1.getD 0 .u)).bind fun b8=>
 ((bif (b8 == true) then
 ai r7.2 (.n h.next) 1 fun eu=>
 some ([(.b (decide (n3<=eu)))],r7.2)
 else some ([(.b false)],r7.2)):Option (List AV × AH O)).bind fun eM=>
 (AV.aZ (eM.1.getD 0 .u)).bind fun uQ=>
 ((bif (uQ == true) then
 ai eM.2 (.n h.next) 1 fun ig=>
 some ([(.b (decide (n4<=(IntKind.i64.wrap (ig - n3)))))],eM.2)
 else some ([(.b false)],eM.2)):Option (List AV × AH O)).bind fun iw=>
 (AV.aZ (iw.1.getD 0 .u)).bind fun Yu=>
 some ((.b Yu),iw.2)
 else none
def MC:Sm O:=VZ
theorem qjv:ag Tryz.prog 143:=Tryz.call143
theorem qjw:run (O:=O) Tryz.prog [] Tryz.f143 (.n .z (.n (.g [(2,2,[(12,.one .b)]),(6,4,[(18,.one .b)]),(12,6,[(26,.one .b)])]) .z))=VZ:=by kernel_rfl
theorem qjx:ah RO Tryz.prog 143 MC:=bJ qjw (aJ) Tryz.func143 (by kernel_rfl)
def qjy (qo eN:Sm O):Sm O:=fun xs h=>
 bif Nat.beq xs.length 3 then
 (AV.bH (xs.getD 0 .u)).bind fun p0=>
 au xs 1 fun n1=>
 cf xs 2 fun n2=>
 Option.bind p0 fun q3=>
 ai h q3.1 (q3.2+1) fun n5=>
 ai h q3.1 ((q3.2+1)+1) fun n7=>
 (qo [(.agg [(.i .i64 n5),(.i .i64 n7)]),(.i .i64 n1),(.i .i64 1)] h).bind fun r8=>
 (AV.aZ r8.1).bind fun b9=>
 (bif (!b9) then
 some ((.i .i64 11),r8.2)
 else Option.bind p0 fun lO=>
 cV r8.2 lO.1 lO.2 fun Fg=>
 Option.bind p0 fun kv=>
 ai r8.2 kv.1 (kv.2+1) fun dU=>
 (eN [(.p Fg),(.i .i64 dU),(.i .i64 n1),(.i .u64 n2)] r8.2).bind fun gR=>
 (AV.aX .i64 gR.1).bind fun fq=>
 some ((.i .i64 fq),gR.2))
 else none
def V0:Sm O:=qjy MC yO
theorem qj0:ag Tryz.prog 93:=Tryz.call93
theorem qj1 (qo eN:Sm O):run (O:=O) Tryz.prog [(143,qo),(141,eN)] Tryz.f93 (.n .z (.n (.n .z (.n .z .z)) (.n (.d [] [0,1,2,3,4,5,6,7,8,9,10,11,12] [0,1,3,7,0,16,48,112,240,0,0,2047,4095]) .z)))=qjy qo eN:=by kernel_rfl
theorem qj2:ah RO Tryz.prog 93 V0:=bJ (qj1 _ _) (ab qjv qjx <| ab UE UF <| aJ) Tryz.func93 (by kernel_rfl)
def qj3:Sm O:=fun xs h=>
 bif Nat.beq xs.length 1 then
 au xs 0 fun n0=>
 ((bif ((decide (n0<0)) == false) then
 some ([(.b (decide (n0>=4194304)))],h)
 else some ([(.b true)],h)):Option (List AV × AH O)).bind fun r1=>
 (AV.aZ (r1.1.getD 0 .u)).bind fun b2=>
 (bif b2 then
 some ((.aG [(.i .u64 0),(.i .i64 2)]),r1.2)
 else let v3:Int:=(IntKind.u64.wrap ((IntKind.u64.wrap n0)*2 ^ 1))
 some ((.aG [(.i .u64 (bK .or .u64 v3 1)),(.i .i64 0)]),r1.2))
 else none
def V3:Sm O:=qj3
theorem qj5:ag Tryz.prog 65:=Tryz.call65
theorem qj6:run (O:=O) Tryz.prog [] Tryz.f65 (.n .z (.n (.n (.g [(2,2,[(9,.one .b)])]) (.n .z .z)) .z))=qj3:=by kernel_rfl
theorem qj7:ah RO Tryz.prog 65 V3:=bJ qj6 (aJ) Tryz.func65 (by kernel_rfl)
def qj8 (k86 Fo xN k88 Fq PC PD Fs DS:Sm O):Sm O:=fun xs h=>
 bif Nat.beq xs.length 3 then
 (AV.bH (xs.getD 0 .u)).bind fun p0=>
 (AV.asAgg 2 (xs.getD 1 .u)).bind fun c1=>
 au c1 0 fun n2=>
 au c1 1 fun n3=>
 au xs 2 fun n4=>
 let h5:=h.ax 1
 let h6:=h5.put h.next (.cells true 37 [(.i .i64 n2),(.i .i64 n3)])
 let h7:=h6.ax 1
 ai h7 (.n h.next) 0 fun n9=>
 ai h7 (.n h.next) 1 fun fc=>
 ai h7 (.n h.next) 0 fun fE=>
 ai h7 (.n h.next) 1 fun dU=>
 Option.bind p0 fun RB=>
 ai h7 RB.1 (RB.2+3) fun iM=>
 (k86 [(.agg [(.i .i64 fE),(.i .i64 dU)]),(.i .i64 iM)] h7).bind fun gY=>
 (AV.aZ gY.1).bind fun UB=>
 (aO (gY.2.ld (.n h.next) 0) (some (.i .i64 n9))).bind fun _=>
 (aO (gY.2.ld (.n h.next) 1) (some (.i .i64 fc))).bind fun _=>
 let He:=gY.2.put h6.next (.cells true 39 [(.i .i64 0),(.i .i64 0),(.i .i64 0),(.i .i64 0),(.b false)])
 (He.st (.n h6.next) 0 [(.i .i64 n9),(.i .i64 fc),(.i .i64 n4),(.i .i64 0),(.b UB)]).bind fun DT=>
 ai DT (.n h6.next) 0 fun np=>
 ai DT (.n h6.next) 1 fun eJ=>
 ai DT (.n h6.next) 2 fun nq=>
 ai DT (.n h6.next) 3 fun lN=>
 (DT.ld (.n h6.next) 4).bind fun w31=>
 (AV.aZ w31).bind fun b32=>
 (Fo [(.agg [(.i .i64 np),(.i .i64 eJ),(.i .i64 nq),(.i .i64 lN),(.b b32)])] DT).bind fun lL=>
 (AV.az 2 lL.1).bind fun c34=>
 cf c34 0 fun zn=>
 au c34 1 fun qd=>
 (bif ((qd:Int) != 0) then
 some ((.aG [(.i .u64 0),(.i .i64 qd)]),lL.2)
 else (lL.2.ld (.n h6.next) 4).bind fun UQ=>
 (AV.aZ UQ).bind fun UR=>
 (bif UR then
 Option.bind p0 fun xR=>
 cV lL.2 xR.1 ((xR.2+1)+1) fun Ww=>
 ai lL.2 (.n h6.next) 0 fun vC=>
 ai lL.2 (.n h6.next) 1 fun tB=>
 ai lL.2 (.n h6.next) 2 fun Hg=>
 ai lL.2 (.n h6.next) 3 fun sn=>
 (lL.2.ld (.n h6.next) 4).bind fun w50=>
 (AV.aZ w50).bind fun b51=>
 (xN [(.agg [(.i .i64 vC),(.i .i64 tB),(.i .i64 Hg),(.i .i64 sn),(.b b51)])] lL.2).bind fun r52=>
 (AV.aX .i64 r52.1).bind fun MQ=>
 (aO (r52.2.ld xR.1 ((xR.2+1)+1)) (some (.p Ww))).bind fun _=>
 (k88 [(.p Ww),(.i .i64 MQ)] r52.2).bind fun ze=>
 (AV.az 2 ze.1).bind fun DQ=>
 au DQ 0 fun BD=>
 au DQ 1 fun G0=>
 (bif ((G0:Int) != 0) then
 some ((.aG [(.i .u64 0),(.i .i64 G0)]),ze.2)
 else Option.bind p0 fun RW=>
 cV ze.2 RW.1 ((RW.2+1)+1) fun p60=>
 (Fq [(.p p60),(.i .i64 BD),(.i .i64 0),(.i .u64 zn)] ze.2).bind fun qj=>
 (AV.aX .i64 qj.1).bind fun LB=>
 (PC [(.i .i64 BD)] qj.2).bind fun LH=>
 (AV.az 2 LH.1).bind fun c64=>
 cf c64 0 fun H'=>
 au c64 1 fun vD=>
 some ((.aG [(.i .u64 H'),(.i .i64 vD)]),LH.2))
 else Option.bind p0 fun q67=>
 cV lL.2 q67.1 (q67.2+1) fun p69=>
 ai lL.2 (.n h6.next) 0 fun H3=>
 ai lL.2 (.n h6.next) 1 fun UL=>
 ai lL.2 (.n h6.next) 2 fun RP=>
 ai lL.2 (.n h6.next) 3 fun Cc=>
 (lL.2.ld (.n h6.next) 4).bind fun w78=>
 (AV.aZ w78).bind fun b79=>
 (xN [(.agg [(.i .i64 H3),(.i .i64 UL),(.i .i64 RP),(.i .i64 Cc),(.b b79)])] lL.2).bind fun Ic=>
 (AV.aX .i64 Ic.1).bind fun RA=>
 (aO (Ic.2.ld q67.1 (q67.2+1)) (some (.p p69))).bind fun _=>
 (PD [(.p p69),(.i .i64 RA)] Ic.2).bind fun r82=>
 (AV.az 2 r82.1).bind fun c83=>
 au c83 0 fun Ib=>
 au c83 1 fun RX=>
 (bif ((RX:Int) != 0) then
 some ((.aG [(.i .u64 0),(.i .i64 RX)]),r82.2)
 else Option.bind p0 fun q86=>
 cV r82.2 q86.1 (q86.2+1) fun p88=>
 (Fs [(.p p88),(.i .i64 Ib),(.i .u64 zn)] r82.2).bind fun r89=>
 (AV.aX .i64 r89.1).bind fun Wx=>
 (DS [(.i .i64 Ib)] r89.2).bind fun r91=>
 (AV.az 2 r91.1).bind fun c92=>
 cf c92 0 fun US=>
 au c92 1 fun n94=>
 some ((.aG [(.i .u64 US),(.i .i64 n94)]),r91.2))))
 else none
def NM:Sm O:=qj8 qdd VV TN qiv Re Za Y9 V0 V3
theorem qka:ag Tryz.prog 46:=Tryz.call46
theorem qkb (k86 Fo xN k88 Fq PC PD Fs DS:Sm O):run (O:=O) Tryz.prog [(86,k86),(87,Fo),(89,xN),(88,k88),(90,Fq),(91,PC),(92,PD),(93,Fs),(65,DS)] Tryz.f46 (.n .z (.n (.d [] [0,1,2,3,4,5,6,7,8,9,10] [0,0,0,0,8,24,56,124,255,0,1023]) (.n .z (.n (.n .z (.n .z .z)) (.n (.n .z (.n (.n (.d [] [0,1,2,3,4,5,6,7,8,9,10,11,12] [0,1,3,7,15,0,32,127,255,511,511,1023,4095]) (.n (.n .z (.n .z .z)) (.n .z .z))) .z)) (.n (.d [] [0,1,2,3,4,5,6,7,8,9,10,11,12] [0,1,3,7,15,0,32,127,255,511,511,1023,4095]) (.n (.n .z (.n .z .z)) (.n .z .z))))))))=qj8 k86 Fo xN k88 Fq PC PD Fs DS:=by kernel_rfl
theorem qkc:ah RO Tryz.prog 46 NM:=bJ (qkb _ _ _ _ _ _ _ _ _) (ab qde qdg <| ab qel qen <| ab qc4 qc6 <| ab qiw qiy <| ab qi6 qi8 <| ab qjb qjd <| ab qjq qjs <| ab qj0 qj2 <| ab qj5 qj7 <| aJ) Tryz.func46 (by kernel_rfl)
def qkd:Sm O:=fun xs h=>
 bif Nat.beq xs.length 1 then
 (AV.asAgg 2 (xs.getD 0 .u)).bind fun c0=>
 au c0 0 fun n1=>
 au c0 1 fun n2=>
 let h3:=h.ax 1
 let h4:=h3.put h.next (.cells true 37 [(.i .i64 n1),(.i .i64 n2)])
 ai h4 (.n h.next) 0 fun n6=>
 ((bif ((decide (n6>=0)) == true) then
 ai h4 (.n h.next) 0 fun n8=>
 some ([(.b (decide (n8<4096)))],h4)
 else some ([(.b false)],h4)):Option (List AV × AH O)).bind fun r9=>
 (AV.aZ (r9.1.getD 0 .u)).bind fun G8=>
 ((bif (G8 == true) then
 ai r9.2 (.n h.next) 1 fun eB=>
 some ([(.b (decide (eB>=0)))],r9.2)
 else some ([(.b false)],r9.2)):Option (List AV × AH O)).bind fun fA=>
 (AV.aZ (fA.1.getD 0 .u)).bind fun Of=>
 ((bif (Of == true) then
 ai fA.2 (.n h.next) 1 fun iy=>
 some ([(.b (decide (iy<4096)))],fA.2)
 else some ([(.b false)],fA.2)):Option (List AV × AH O)).bind fun fP=>
 (AV.aZ (fP.1.getD 0 .u)).bind fun Lv=>
 some ((.b Lv),fP.2)
 else none
def qke:Sm O:=qkd
theorem qkf:ag Tryz.prog 144:=Tryz.call144
theorem qkg:run (O:=O) Tryz.prog [] Tryz.f144 (.n .z (.n (.g [(3,3,[(10,.one .b)]),(8,3,[(15,.one .b)]),(13,3,[(20,.one .b)])]) .z))=qkd:=by kernel_rfl
theorem qkh:ah RO Tryz.prog 144 qke:=bJ qkg (aJ) Tryz.func144 (by kernel_rfl)
def qki (PF:Sm O):Sm O:=fun xs h=>
 bif Nat.beq xs.length 1 then
 (AV.asAgg 2 (xs.getD 0 .u)).bind fun c0=>
 au c0 0 fun n1=>
 au c0 1 fun n2=>
 let h3:=h.ax 1
 let h4:=h3.put h.next (.cells true 37 [(.i .i64 n1),(.i .i64 n2)])
 ai h4 (.n h.next) 0 fun n6=>
 ai h4 (.n h.next) 1 fun n8=>
 (PF [(.agg [(.i .i64 n6),(.i .i64 n8)])] h4).bind fun r9=>
 (AV.aZ r9.1).bind fun G8=>
 (bif (!G8) then
 some ((.i .i64 0),r9.2)
 else ai r9.2 (.n h.next) 0 fun eB=>
 ai r9.2 (.n h.next) 1 fun ig=>
 let ZZ:Int:=(IntKind.i64.wrap ((IntKind.i64.wrap (1+eB))+ig))
 some ((.i .i64 ZZ),r9.2))
 else none
def Uc:Sm O:=qki qke
theorem qkk:ag Tryz.prog 94:=Tryz.call94
theorem qkl (PF:Sm O):run (O:=O) Tryz.prog [(144,PF)] Tryz.f94 (.n .z (.n (.n .z (.n .z .z)) .z))=qki PF:=by kernel_rfl
theorem qkm:ah RO Tryz.prog 94 Uc:=bJ (qkl _) (ab qkf qkh <| aJ) Tryz.func94 (by kernel_rfl)
def qkn:Sm O:=fun xs h=>
 bif Nat.beq xs.length 1 then
 (AV.asAgg 5 (xs.getD 0 .u)).bind fun c0=>
 au c0 0 fun n1=>
 au c0 1 fun n2=>
 au c0 2 fun n3=>
 au c0 3 fun n4=>
 (AV.aZ (c0.getD 4 .u)).bind fun b5=>
 let h6:=h.ax 1
 let h7:=h6.put h.next (.cells true 39 [(.i .i64 n1),(.i .i64 n2),(.i .i64 n3),(.i .i64 n4),(.b b5)])
 ai h7 (.n h.next) 0 fun n9=>
 ai h7 (.n h.next) 1 fun fc=>
 ((bif ((decide (n9<0)) == false) then
 some ([(.b (decide (n9 > 4095)))],h7)
 else some ([(.b true)],h7)):Option (List AV × AH O)).bind fun ij=>
 (AV.aZ (ij.1.getD 0 .u)).bind fun Pt=>
 ((bif (Pt == false) then
 some ([(.b (decide (fc<0)))],ij.2)
 else some ([(.b true)],ij.2)):Option (List AV × AH O)).bind fun ej=>
 (AV.aZ (ej.1.getD 0 .u)).bind fun JR=>
 ((bif (JR == false) then
 some ([(.b (decide (fc > 4095)))],ej.2)
 else some ([(.b true)],ej.2)):Option (List AV × AH O)).bind fun gR=>
 (AV.aZ (gR.1.getD 0 .u)).bind fun Fh=>
 (bif Fh then
 some ((.i .i64 20),gR.2)
 else ai gR.2 (.n h.next) 2 fun fk=>
 ((bif ((decide (fk<0)) == false) then
 ai gR.2 (.n h.next) 2 fun nR=>
 some ([(.b (decide (nR > 31)))],gR.2)
 else some ([(.b true)],gR.2)):Option (List AV × AH O)).bind fun fV=>
 (AV.aZ (fV.1.getD 0 .u)).bind fun b23=>
 (bif b23 then
 some ((.i .i64 21),fV.2)
 else ai fV.2 (.n h.next) 3 fun qi=>
 ((bif ((decide (qi<0)) == false) then
 ai fV.2 (.n h.next) 3 fun qy=>
 some ([(.b (decide (qy > 7)))],fV.2)
 else some ([(.b true)],fV.2)):Option (List AV × AH O)).bind fun zM=>
 (AV.aZ (zM.1.getD 0 .u)).bind fun UN=>
 (bif UN then
 some ((.i .i64 2),zM.2)
 else some ((.i .i64 0),zM.2))))
 else none
def Ub:Sm O:=qkn
theorem qkp:ag Tryz.prog 95:=Tryz.call95
theorem qkq:run (O:=O) Tryz.prog [] Tryz.f95 (.n .z (.n (.d [] [0,1,2,3,4,5,6,7] [0,1,3,0,8,24,7,127]) (.n (.n (.g [(2,2,[(16,.one .b)]),(6,2,[(20,.one .b)]),(10,2,[(24,.one .b)])]) (.n .z .z)) (.n (.n (.g [(3,3,[(32,.one .b)])]) (.n .z .z)) (.n (.n (.g [(3,3,[(40,.one .b)])]) (.n .z .z)) .z)))))=qkn:=by kernel_rfl
theorem qkr:ah RO Tryz.prog 95 Ub:=bJ qkq (aJ) Tryz.func95 (by kernel_rfl)
def ZJ (k94 k95:Sm O):Sm O:=fun xs h=>
 bif Nat.beq xs.length 3 then
 (AV.asAgg 5 (xs.getD 0 .u)).bind fun c0=>
 au c0 0 fun n1=>
 au c0 1 fun n2=>
 au c0 2 fun n3=>
 au c0 3 fun n4=>
 cT c0 4 fun l5=>
 (AV.asAgg 2 (xs.getD 1 .u)).bind fun c6=>
 au c6 0 fun n7=>
 au c6 1 fun n8=>
 au xs 2 fun n9=>
 let fM:=h.ax 3
 let hU:=fM.put h.next (.cells true 105 [(.i .i64 n1),(.i .i64 n2),(.i .i64 n3),(.i .i64 n4),(.sl l5.1 l5.2)])
 let mO:=hU.put (h.next+1) (.cells true 37 [(.i .i64 n7),(.i .i64 n8)])
 let lz:=mO.put ((h.next+1)+1) (.cells true 105 [(.i .i64 0),(.i .i64 0),(.i .i64 0),(.i .i64 0),(.sl .nil 0)])
 ai lz (.n (h.next+1)) 0 fun dU=>
 ai lz (.n (h.next+1)) 1 fun fq=>
 (k94 [(.agg [(.i .i64 dU),(.i .i64 fq)])] lz).bind fun jn=>
 (AV.aX .i64 jn.1).bind fun fk=>
 let tx:=jn.2.ax 1
 ai tx (.n (h.next+1)) 0 fun gZ=>
 ai tx (.n (h.next+1)) 1 fun np=>
 ai tx (.n h.next) 0 fun eJ=>
 let zh:=tx.put jn.2.next (.cells true 39 [(.i .i64 0),(.i .i64 0),(.i .i64 0),(.i .i64 0),(.b false)])
 (zh.st (.n jn.2.next) 0 [(.i .i64 gZ),(.i .i64 np),(.i .i64 n9),(.i .i64 0),(.b (decide (fk > eJ)))]).bind fun we=>
 ai we (.n jn.2.next) 0 fun lN=>
 ai we (.n jn.2.next) 1 fun nu=>
 ai we (.n jn.2.next) 2 fun sL=>
 ai we (.n jn.2.next) 3 fun qd=>
 (we.ld (.n jn.2.next) 4).bind fun UQ=>
 (AV.aZ UQ).bind fun UR=>
 (k95 [(.agg [(.i .i64 lN),(.i .i64 nu),(.i .i64 sL),(.i .i64 qd),(.b UR)])] we).bind fun jq=>
 (AV.aX .i64 jq.1).bind fun Li=>
 (bif ((Li:Int) != 0) then
 ai jq.2 (.n h.next) 0 fun Ff=>
 ai jq.2 (.n h.next) 1 fun MT=>
 ai jq.2 (.n h.next) 2 fun G6=>
 ai jq.2 (.n h.next) 3 fun DN=>
 aV jq.2 (.n h.next) 4 fun l50=>
 (jq.2.st (.n ((h.next+1)+1)) 0 [(.i .i64 Ff),(.i .i64 MT),(.i .i64 G6),(.i .i64 DN),(.sl l50.1 l50.2)]).bind fun GZ=>
 ai GZ (.n ((h.next+1)+1)) 0 fun MQ=>
 ai GZ (.n ((h.next+1)+1)) 1 fun Pc=>
 ai GZ (.n ((h.next+1)+1)) 2 fun G0=>
 ai GZ (.n ((h.next+1)+1)) 3 fun DR=>
 aV GZ (.n ((h.next+1)+1)) 4 fun l61=>
 some ((.aG [(.agg [(.i .i64 MQ),(.i .i64 Pc),(.i .i64 G0),(.i .i64 DR),(.sl l61.1 l61.2)]),(.i .u64 0),(.i .i64 Li)]),GZ)
 else let MK:=jq.2.ax 3
 ai MK (.n jn.2.next) 0 fun Ba=>
 ai MK (.n jn.2.next) 1 fun vD=>
 ai MK (.n jn.2.next) 2 fun Wu=>
 ai MK (.n jn.2.next) 3 fun RY=>
 (MK.ld (.n jn.2.next) 4).bind fun w71=>
 (AV.aZ w71).bind fun b72=>
 ai MK (.n (h.next+1)) 0 fun Hh=>
 ai MK (.n (h.next+1)) 1 fun Bw=>
 (bif ((((decide ((0:Int)<=Hh)) && (decide (Hh<=Hh))) && (decide ((Hh*8)<=140737488355328))) && (decide (Hh<=140737488355328))) then
 let h77:=MK.put jq.2.next (.cells true 33 ((List.replicate Hh.toNat [(.i .u64 0)]).flatten))
 (bif ((((decide ((0:Int)<=Bw)) && (decide (Bw<=Bw))) && (decide ((Bw*8)<=140737488355328))) && (decide (Bw<=140737488355328))) then
 let h78:=h77.put (jq.2.next+1) (.cells true 33 ((List.replicate Bw.toNat [(.i .u64 0)]).flatten))
 let h79:=h78.put ((jq.2.next+1)+1) (.cells true 42 [(.i .i64 0),(.i .i64 0),(.i .i64 0),(.i .i64 0),(.b false),(.sl .nil 0),(.sl .nil 0),(.i .u64 0)])
 (h79.st (.n ((jq.2.next+1)+1)) 0 [(.i .i64 Ba),(.i .i64 vD),(.i .i64 Wu),(.i .i64 RY),(.b b72),(.sl (.loc (.n jq.2.next) 0 1) Hh.toNat),(.sl (.loc (.n (jq.2.next+1)) 0 1) Bw.toNat),(.i .u64 0)]).bind fun Hk=>
 (Hk.ld (.n jn.2.next) 4).bind fun w81=>
 (AV.aZ w81).bind fun b82=>
 cE (S:=List AV × AH O) (R:=(AV × AH O)) ((bif b82 then
 ai Hk (.n h.next) 3 fun Ib=>
 (Hk.st (.n h.next) 3 [(.i .i64 (IntKind.i64.wrap (Ib+1)))]).bind fun h85=>
 ai h85 (.n h.next) 3 fun LI=>
 (h85.st (.n ((jq.2.next+1)+1)) 7 [(.i .u64 (IntKind.u64.wrap (2*(IntKind.u64.wrap LI))))]).bind fun h88=>
 some (Sum.inl ([],h88))
 else ai Hk (.n h.next) 1 fun Wx=>
 ai Hk (.n h.next) 2 fun Lj=>
 (bif (decide (fk > (IntKind.i64.wrap (Wx - Lj)))) then
 ai Hk (.n h.next) 0 fun n94=>
 ai Hk (.n h.next) 1 fun Ca=>
 ai Hk (.n h.next) 2 fun n98=>
 ai Hk (.n h.next) 3 fun LJ=>
 aV Hk (.n h.next) 4 fun aaU=>
 (Hk.st (.n ((h.next+1)+1)) 0 [(.i .i64 n94),(.i .i64 Ca),(.i .i64 n98),(.i .i64 LJ),(.sl aaU.1 aaU.2)]).bind fun Hl=>
 (((Hl.ld (.n ((h.next+1)+1)) 0).bind fun alo=>
 (AV.aX .i64 alo).bind fun zq=>
 ai Hl (.n ((h.next+1)+1)) 1 fun LK=>
 ai Hl (.n ((h.next+1)+1)) 2 fun alp=>
 ai Hl (.n ((h.next+1)+1)) 3 fun sN=>
 aV Hl (.n ((h.next+1)+1)) 4 fun BE=>
 some ((.aG [(.agg [(.i .i64 zq),(.i .i64 LK),(.i .i64 alp),(.i .i64 sN),(.sl BE.1 BE.2)]),(.i .u64 0),(.i .i64 3)]),Hl):Option (AV × AH O)).map Sum.inr)
 else ai Hk (.n h.next) 2 fun LL=>
 let alq:Int:=(IntKind.u64.wrap ((IntKind.u64.wrap (2*(IntKind.u64.wrap LL)))+1))
 (Hk.st (.n ((jq.2.next+1)+1)) 7 [(.i .u64 alq)]).bind fun aaV=>
 ai aaV (.n h.next) 2 fun UT=>
 (aaV.st (.n h.next) 2 [(.i .i64 (IntKind.i64.wrap (UT+fk)))]).bind fun alr=>
 some (Sum.inl ([],alr))))) fun DU=>
 let wi:=DU.2.ax 4
 aV wi (.n h.next) 4 fun PG=>
 ai wi (.n ((jq.2.next+1)+1)) 0 fun PH=>
 ai wi (.n ((jq.2.next+1)+1)) 1 fun PJ=>
 ai wi (.n ((jq.2.next+1)+1)) 2 fun G3=>
 ai wi (.n ((jq.2.next+1)+1)) 3 fun Hm=>
 (wi.ld (.n ((jq.2.next+1)+1)) 4).bind fun als=>
 (AV.aZ als).bind fun aaW=>
 aV wi (.n ((jq.2.next+1)+1)) 5 fun PK=>
 aV wi (.n ((jq.2.next+1)+1)) 6 fun PL=>
 cQ wi (.n ((jq.2.next+1)+1)) 7 fun PM=>
 let vq:=wi.put DU.2.next (.cells true 42 [])
 (vq.bU PG.1 PG.2 8).bind fun UU=>
 (bif (Nat.ble ((0+PG.2)*97) 35184372088832) then
 (vq.cL (DU.2.next+1) 42 8 (.loc (.n DU.2.next) 0 8) 0 PG.2 UU).bind fun wj=>
 (AV.eG wj.1).bind fun Hn=>
 (aO (wj.2.ld (.n ((jq.2.next+1)+1)) 0) (some (.i .i64 PH))).bind fun _=>
 (aO (wj.2.ld (.n ((jq.2.next+1)+1)) 1) (some (.i .i64 PJ))).bind fun _=>
 (aO (wj.2.ld (.n ((jq.2.next+1)+1)) 2) (some (.i .i64 G3))).bind fun _=>
 (aO (wj.2.ld (.n ((jq.2.next+1)+1)) 3) (some (.i .i64 Hm))).bind fun _=>
 (aO (wj.2.ld (.n ((jq.2.next+1)+1)) 4) (some (.b aaW))).bind fun _=>
 (aO (wj.2.ld (.n ((jq.2.next+1)+1)) 5) (some (.sl PK.1 PK.2))).bind fun _=>
 (aO (wj.2.ld (.n ((jq.2.next+1)+1)) 6) (some (.sl PL.1 PL.2))).bind fun _=>
 (aO (wj.2.ld (.n ((jq.2.next+1)+1)) 7) (some (.i .u64 PM))).bind fun _=>
 let aaX:=wj.2.put ((DU.2.next+1)+1) (.cells true 42 [(.i .i64 PH),(.i .i64 PJ),(.i .i64 G3),(.i .i64 Hm),(.b aaW),(.sl PK.1 PK.2),(.sl PL.1 PL.2),(.i .u64 PM)])
 (aaX.bU (.loc (.n ((DU.2.next+1)+1)) 0 8) 1 8).bind fun UW=>
 (bif (Nat.ble ((Hn.2+1)*97) 35184372088832) then
 (aaX.cL (((DU.2.next+1)+1)+1) 42 8 Hn.1 Hn.2 1 UW).bind fun DV=>
 (AV.eG DV.1).bind fun aaY=>
 (DV.2.st (.n h.next) 4 [(.sl aaY.1 aaY.2)]).bind fun sO=>
 ai sO (.n h.next) 0 fun Lq=>
 ai sO (.n h.next) 1 fun UX=>
 ai sO (.n h.next) 2 fun Um=>
 ai sO (.n h.next) 3 fun UY=>
 aV sO (.n h.next) 4 fun LM=>
 cQ sO (.n ((jq.2.next+1)+1)) 7 fun G4=>
 (sO.st (.n ((h.next+1)+1)) 0 [(.i .i64 Lq),(.i .i64 UX),(.i .i64 Um),(.i .i64 UY),(.sl LM.1 LM.2)]).bind fun DW=>
 (aO (DW.ld (.n ((jq.2.next+1)+1)) 7) (some (.i .u64 G4))).bind fun _=>
 ai DW (.n ((h.next+1)+1)) 0 fun mQ=>
 ai DW (.n ((h.next+1)+1)) 1 fun alu=>
 ai DW (.n ((h.next+1)+1)) 2 fun alv=>
 ai DW (.n ((h.next+1)+1)) 3 fun alw=>
 aV DW (.n ((h.next+1)+1)) 4 fun aaZ=>
 some ((.aG [(.agg [(.i .i64 mQ),(.i .i64 alu),(.i .i64 alv),(.i .i64 alw),(.sl aaZ.1 aaZ.2)]),(.i .u64 G4),(.i .i64 0)]),DW)
 else none)
 else none)
 else none)
 else none))
 else none
def XU:Sm O:=vB (ZJ Uc Ub)
theorem qku:ag Tryz.prog 47:=Tryz.call47
theorem qkv (k94 k95:Sm O):run (O:=O) Tryz.prog [(94,k94),(95,k95)] Tryz.f47 (.n .z (.n .z (.n .z (.n (.n .z (.n .z (.n .z .z))) (.n (.d [] [0,1,2,4,5,3,6,7,8,9] [0,0,2,6,0,16,48,127,0,511]) (.n (.n .z (.j true [] .z (.n (.n .z (.n .z .z)) .z))) (.n (.d [] [1,2,4,0,3,5,6,7,8] [0,0,2,7,0,16,63,127,255]) (.n (.d [] [0,1,2,3,4,5] [0,0,2,1,15,31]) .z))))))))=ZJ k94 k95:=by kernel_rfl
theorem qkw:ah RO Tryz.prog 47 (XU):=
   have h:ah RO Tryz.prog 47 (ZJ Uc Ub):=(qkv Uc Ub)▸eY (ab qkk (qkm) <| ab qkp (qkr) <| aJ) mixed Tryz.func47 (by kernel_rfl) _
   h.vB
def qkx:Sm O:=fun xs h=>
 bif Nat.beq xs.length 1 then
 cf xs 0 fun n0=>
 (bif ((n0:Int) == 0) then
 some ((.i .i64 0),h)
 else ((bif ((((bK .and .u64 n0 1):Int) == 1) == true) then
 some ([(.b (decide ((Int.fdiv n0 (2 ^ 1))<4194304)))],h)
 else some ([(.b false)],h)):Option (List AV × AH O)).bind fun r1=>
 (AV.aZ (r1.1.getD 0 .u)).bind fun b2=>
 (bif b2 then
 some ((.i .i64 1),r1.2)
 else ((bif ((((bK .and .u64 n0 1):Int) == 0) == true) then
 some ([(.b (decide ((Int.fdiv n0 (2 ^ 1))<=1048576)))],r1.2)
 else some ([(.b false)],r1.2)):Option (List AV × AH O)).bind fun r3=>
 (AV.aZ (r3.1.getD 0 .u)).bind fun b4=>
 (bif b4 then
 some ((.i .i64 2),r3.2)
 else some ((.i .i64 3),r3.2))))
 else none
def De:Sm O:=qkx
theorem Wy:ag Tryz.prog 53:=Tryz.call53
theorem qk0:run (O:=O) Tryz.prog [] Tryz.f53 (.n .z (.n .z (.n (.n (.n .z (.n .z (.n (.g [(3,2,[(16,.one .b)])]) (.n .z (.n (.g [(3,2,[(24,.one .b)])]) (.n .z .z)))))) .z) .z)))=qkx:=by kernel_rfl
theorem Wz:ah RO Tryz.prog 53 De:=bJ qk0 (aJ) Tryz.func53 (by kernel_rfl)
def qk2 (qp:Sm O):Sm O:=fun xs h=>
 bif Nat.beq xs.length 1 then
 cf xs 0 fun n0=>
 (qp [(.i .u64 n0)] h).bind fun r1=>
 (AV.aX .i64 r1.1).bind fun n2=>
 ((bif ((n2:Int) == 1) then
 some ([(.b ((n2:Int) == 1))],r1.2)
 else some ([(.b ((n2:Int) == 2))],r1.2)):Option (List AV × AH O)).bind fun r3=>
 (AV.aZ (r3.1.getD 0 .u)).bind fun b4=>
 (bif b4 then
 some ((.i .i64 (IntKind.i64.wrap (Int.fdiv n0 (2 ^ 1)))),r3.2)
 else some ((.i .i64 0),r3.2))
 else none
def OC:Sm O:=qk2 De
theorem qk4:ag Tryz.prog 63:=Tryz.call63
theorem qk5 (qp:Sm O):run (O:=O) Tryz.prog [(53,qp)] Tryz.f63 (.n .z (.n (.n .z (.n (.n (.n .z (.j false [(5,.one .b)] .z .z)) (.n .z .z)) .z)) .z))=qk2 qp:=by kernel_rfl
theorem qk6:ah RO Tryz.prog 63 OC:=bJ (qk5 _) (ab Wy Wz <| aJ) Tryz.func63 (by kernel_rfl)
def qk7 (qo eX:Sm O):Sm O:=fun xs h=>
 bif Nat.beq xs.length 2 then
 (AV.bH (xs.getD 0 .u)).bind fun p0=>
 au xs 1 fun n1=>
 Option.bind p0 fun q2=>
 ai h q2.1 (q2.2+1) fun n4=>
 ai h q2.1 ((q2.2+1)+1) fun n6=>
 (qo [(.agg [(.i .i64 n4),(.i .i64 n6)]),(.i .i64 n1),(.i .i64 1)] h).bind fun r7=>
 (AV.aZ r7.1).bind fun b8=>
 (bif (!b8) then
 some ((.aG [(.i .u64 0),(.i .i64 11)]),r7.2)
 else Option.bind p0 fun q9=>
 cV r7.2 q9.1 q9.2 fun RU=>
 Option.bind p0 fun zj=>
 ai r7.2 zj.1 (zj.2+1) fun ig=>
 (eX [(.p RU),(.i .i64 ig),(.i .i64 n1)] r7.2).bind fun iw=>
 (AV.az 2 iw.1).bind fun vo=>
 cf vo 0 fun fq=>
 au vo 1 fun iM=>
 some ((.aG [(.i .u64 fq),(.i .i64 iM)]),iw.2))
 else none
def qk8:Sm O:=qk7 MC yN
theorem qk9:ag Tryz.prog 109:=Tryz.call109
theorem qla (qo eX:Sm O):run (O:=O) Tryz.prog [(143,qo),(117,eX)] Tryz.f109 (.n .z (.n (.n .z (.n .z .z)) (.n (.d [] [0,1,2,3,4,5,6,7,8,9,10,11,12,13,14] [0,1,3,7,0,16,48,112,240,0,1023,2047,2047,8191,16383]) .z)))=qk7 qo eX:=by kernel_rfl
theorem qlb:ah RO Tryz.prog 109 qk8:=bJ (qla _ _) (ab qjv qjx <| ab UG UH <| aJ) Tryz.func109 (by kernel_rfl)
def qlc (js eX:Sm O):Sm O:=fun xs h=>
 bif Nat.beq xs.length 3 then
 (AV.bH (xs.getD 0 .u)).bind fun p0=>
 au xs 1 fun n1=>
 au xs 2 fun n2=>
 Option.bind p0 fun q3=>
 cV h q3.1 (q3.2+1) fun p5=>
 (js [(.p p5),(.i .i64 n1),(.i .i64 0)] h).bind fun r6=>
 (AV.az 2 r6.1).bind fun c7=>
 cf c7 0 fun n8=>
 au c7 1 fun n9=>
 (bif ((n9:Int) != 0) then
 some ((.aG [(.i .u64 0),(.i .i64 n9)]),r6.2)
 else Option.bind p0 fun lO=>
 cV r6.2 lO.1 lO.2 fun Fg=>
 (eX [(.p Fg),(.i .i64 (IntKind.i64.wrap n8)),(.i .i64 n2)] r6.2).bind fun fA=>
 (AV.az 2 fA.1).bind fun Cb=>
 cf Cb 0 fun dU=>
 au Cb 1 fun iy=>
 some ((.aG [(.i .u64 dU),(.i .i64 iy)]),fA.2))
 else none
def Zc:Sm O:=qlc Q5 yN
theorem qle:ag Tryz.prog 108:=Tryz.call108
theorem qlf (js eX:Sm O):run (O:=O) Tryz.prog [(119,js),(117,eX)] Tryz.f108 (.n .z (.n .z (.n (.n .z (.n .z .z)) .z)))=qlc js eX:=by kernel_rfl
theorem qlg:ah RO Tryz.prog 108 Zc:=bJ (qlf _ _) (ab qi1 qi3 <| ab UG UH <| aJ) Tryz.func108 (by kernel_rfl)
def qlh (qp sP PN zt:Sm O):Sm O:=fun xs h=>
 bif Nat.beq xs.length 3 then
 (AV.bH (xs.getD 0 .u)).bind fun p0=>
 cf xs 1 fun n1=>
 au xs 2 fun n2=>
 (qp [(.i .u64 n1)] h).bind fun r3=>
 (AV.aX .i64 r3.1).bind fun n4=>
 (bif ((n4:Int) == 0) then
 some ((.aG [(.i .u64 0),(.i .i64 31)]),r3.2)
 else (bif ((n4:Int) == 1) then
 Option.bind p0 fun q5=>
 cV r3.2 q5.1 (q5.2+1) fun p7=>
 (sP [(.i .u64 n1)] r3.2).bind fun r8=>
 (AV.aX .i64 r8.1).bind fun n9=>
 (aO (r8.2.ld q5.1 (q5.2+1)) (some (.p p7))).bind fun _=>
 (PN [(.p p7),(.i .i64 (IntKind.i64.wrap (n9+n2)))] r8.2).bind fun ee=>
 (AV.az 2 ee.1).bind fun tz=>
 cf tz 0 fun eB=>
 au tz 1 fun fE=>
 some ((.aG [(.i .u64 eB),(.i .i64 fE)]),ee.2)
 else (bif ((n4:Int) == 2) then
 Option.bind p0 fun qh=>
 cV r3.2 qh.1 ((qh.2+1)+1) fun xP=>
 (sP [(.i .u64 n1)] r3.2).bind fun fP=>
 (AV.aX .i64 fP.1).bind fun iM=>
 (aO (fP.2.ld qh.1 ((qh.2+1)+1)) (some (.p xP))).bind fun _=>
 (zt [(.p xP),(.i .i64 iM),(.i .i64 n2)] fP.2).bind fun gY=>
 (AV.az 2 gY.1).bind fun Fi=>
 cf Fi 0 fun nR=>
 au Fi 1 fun gZ=>
 some ((.aG [(.i .u64 nR),(.i .i64 gZ)]),gY.2)
 else some ((.aG [(.i .u64 0),(.i .i64 5)]),r3.2))))
 else none
def NS:Sm O:=qlh De OC qk8 Zc
theorem qlj:ag Tryz.prog 56:=Tryz.call56
theorem qlk (qp sP PN zt:Sm O):run (O:=O) Tryz.prog [(53,qp),(63,sP),(109,PN),(108,zt)] Tryz.f56 (.n .z (.n (.n .z (.n (.n .z (.n .z (.n .z (.n (.n (.d [] [0,1,2,3,4,5,7,6,8,9,10,11,12,13] [0,1,3,7,15,0,32,0,224,511,1023,1023,4095,8191]) .z) (.n .z (.n (.n (.d [] [0,1,2,3,4,5,7,6,8,9,10,11,12] [0,1,3,7,15,0,32,0,255,511,511,2047,4095]) .z) .z)))))) .z)) .z))=qlh qp sP PN zt:=by kernel_rfl
theorem qll:ah RO Tryz.prog 56 NS:=bJ (qlk _ _ _ _) (ab Wy Wz <| ab qk4 qk6 <| ab qk9 qlb <| ab qle qlg <| aJ) Tryz.func56 (by kernel_rfl)
def qlm (qf nD:Sm O):Sm O:=fun xs h=>
 bif Nat.beq xs.length 2 then
 cf xs 0 fun n0=>
 (AV.asAgg 2 (xs.getD 1 .u)).bind fun c1=>
 au c1 0 fun n2=>
 au c1 1 fun n3=>
 let h4:=h.ax 1
 let h5:=h4.put h.next (.cells true 195 [(.i .i64 n2),(.i .i64 n3)])
 ai h5 (.n h.next) 0 fun n7=>
 ai h5 (.n h.next) 1 fun n9=>
 (qf [(.agg [(.i .i64 n7),(.i .i64 n9)])] h5).bind fun ee=>
 (AV.aZ ee.1).bind fun Lx=>
 (bif (!Lx) then
 some ((.i .u64 0),ee.2)
 else ai ee.2 (.n h.next) 0 fun fE=>
 ai ee.2 (.n h.next) 1 fun dU=>
 ai ee.2 (.n h.next) 0 fun fq=>
 (nD [(.agg [(.i .i64 fE),(.i .i64 dU)])] ee.2).bind fun jn=>
 (AV.aX .u64 jn.1).bind fun fk=>
 (aO (jn.2.ld (.n h.next) 0) (some (.i .i64 fq))).bind fun _=>
 (bif (decide (fq<0)) then
 none
 else let v20:Int:=(Int.fdiv (bK .and .u64 n0 fk) (2 ^ min fq.toNat 64))
 some ((.i .u64 v20),jn.2)))
 else none
def VT:Sm O:=qlm VR VS
theorem qlo:ag Tryz.prog 111:=Tryz.call111
theorem qlp (qf nD:Sm O):run (O:=O) Tryz.prog [(153,qf),(154,nD)] Tryz.f111 (.n .z (.n (.n .z (.n .z .z)) (.n (.d [] [0,1,4,5,2,3,6,7] [0,0,2,7,0,16,63,127]) .z)))=qlm qf nD:=by kernel_rfl
theorem qlq:ah RO Tryz.prog 111 VT:=bJ (qlp _ _) (ab qdp qdr <| ab qdu qdw <| aJ) Tryz.func111 (by kernel_rfl)
def qlr (l4:SA × Nat) (vr:Sm O) (n0:Int):List AV × AH O->Option ((List AV × AH O) ⊕ (List AV × AH O)):=(fun r5=>
 (AV.eG (r5.1.getD 0 .u)).bind fun l6=>
 (AV.aX .i64 (r5.1.getD 1 .u)).bind fun n7=>
 (bif (decide (n7<(l4.2:Int))) then
 let h8:=r5.2.ax 1
 (bif ((decide ((0:Int)<=n7)) && (decide (n7<(l4.2:Int)))) then
 (SA.ref l4.1).bind fun q9=>
 ai h8 q9.1 (q9.2+(n7.toNat*2)) fun fc=>
 ai h8 q9.1 ((q9.2+(n7.toNat*2))+1) fun fE=>
 let nC:=h8.put r5.2.next (.cells true 195 [(.i .i64 0),(.i .i64 0)])
 (nC.st (.n r5.2.next) 0 [(.i .i64 fc),(.i .i64 fE)]).bind fun tA=>
 let sk:=tA.ax 2
 ai sk (.n r5.2.next) 0 fun iM=>
 ai sk (.n r5.2.next) 1 fun jK=>
 (vr [(.i .u64 n0),(.agg [(.i .i64 iM),(.i .i64 jK)])] sk).bind fun zK=>
 (AV.aX .u64 zK.1).bind fun gZ=>
 let MN:=zK.2.put tA.next (.cells true 3 [(.i .i64 (IntKind.i64.wrap gZ))])
 (MN.bU (.loc (.n tA.next) 0 1) 1 1).bind fun LN=>
 (bif (Nat.ble ((l6.2+1)*9) 35184372088832) then
 (MN.cL (tA.next+1) 3 1 l6.1 l6.2 1 LN).bind fun ft=>
 (AV.eG ft.1).bind fun LO=>
 some (Sum.inl ([(.sl LO.1 LO.2),(.i .i64 (IntKind.i64.wrap (n7+1)))],ft.2))
 else none)
 else none)
 else some (Sum.inr ([(.sl l6.1 l6.2)],r5.2))))
def qls (zi vr Fo:Sm O):Sm O:=fun xs h=>
 bif Nat.beq xs.length 1 then
 cf xs 0 fun n0=>
 let h1:=h.ax 1
 let h2:=h1.put h.next (.cells true 39 [(.i .i64 0),(.i .i64 0),(.i .i64 0),(.i .i64 0),(.b false)])
 (zi [] h2).bind fun r3=>
 (AV.eG r3.1).bind fun l4=>
 (bu (S:=List AV × AH O) (T:=List AV × AH O) (qlr l4 vr n0) ([(.sl .nil 0),(.i .i64 0)],r3.2)).bind fun mK=>
 (AV.eG (mK.1.getD 0 .u)).bind fun za=>
 let DX:=mK.2.ax 1
 (bif (decide ((0:Int)<(za.2:Int))) then
 (SA.ref za.1).bind fun q30=>
 ai DX q30.1 q30.2 fun nu=>
 (bif (decide ((1:Int)<(za.2:Int))) then
 (SA.ref za.1).bind fun q33=>
 ai DX q33.1 (q33.2+1) fun zn=>
 (bif (decide ((2:Int)<(za.2:Int))) then
 (SA.ref za.1).bind fun RZ=>
 ai DX RZ.1 (RZ.2+2) fun Lh=>
 (bif (decide ((3:Int)<(za.2:Int))) then
 (SA.ref za.1).bind fun xR=>
 ai DX xR.1 (xR.2+3) fun Hi=>
 (bif (decide ((4:Int)<(za.2:Int))) then
 (SA.ref za.1).bind fun RF=>
 ai DX RF.1 (RF.2+4) fun MT=>
 let h45:=DX.put mK.2.next (.cells true 39 [(.i .i64 0),(.i .i64 0),(.i .i64 0),(.i .i64 0),(.b false)])
 (h45.st (.n mK.2.next) 0 [(.i .i64 nu),(.i .i64 zn),(.i .i64 Lh),(.i .i64 Hi),(.b ((MT:Int) == 1))]).bind fun WA=>
 ai WA (.n mK.2.next) 0 fun DN=>
 ai WA (.n mK.2.next) 1 fun zb=>
 ai WA (.n mK.2.next) 2 fun B4=>
 ai WA (.n mK.2.next) 3 fun zO=>
 (WA.ld (.n mK.2.next) 4).bind fun w55=>
 (AV.aZ w55).bind fun b56=>
 (Fo [(.agg [(.i .i64 DN),(.i .i64 zb),(.i .i64 B4),(.i .i64 zO),(.b b56)])] WA).bind fun WB=>
 (AV.az 2 WB.1).bind fun c58=>
 cf c58 0 fun DR=>
 au c58 1 fun B9=>
 ((bif (((B9:Int) != 0) == false) then
 some ([(.b ((DR:Int) != n0))],WB.2)
 else some ([(.b true)],WB.2)):Option (List AV × AH O)).bind fun qj=>
 (AV.aZ (qj.1.getD 0 .u)).bind fun b62=>
 (bif b62 then
 (qj.2.st (.n h.next) 0 [(.i .i64 0),(.i .i64 0),(.i .i64 0),(.i .i64 0),(.b false)]).bind fun HC=>
 ai HC (.n h.next) 0 fun H'=>
 ai HC (.n h.next) 1 fun Ia=>
 ai HC (.n h.next) 2 fun PO=>
 ai HC (.n h.next) 3 fun H3=>
 (HC.ld (.n h.next) 4).bind fun w72=>
 (AV.aZ w72).bind fun b73=>
 some ((.aG [(.agg [(.i .i64 H'),(.i .i64 Ia),(.i .i64 PO),(.i .i64 H3),(.b b73)]),(.i .i64 5)]),HC)
 else ai qj.2 (.n mK.2.next) 0 fun RP=>
 ai qj.2 (.n mK.2.next) 1 fun Cc=>
 ai qj.2 (.n mK.2.next) 2 fun PQ=>
 ai qj.2 (.n mK.2.next) 3 fun RA=>
 (qj.2.ld (.n mK.2.next) 4).bind fun w82=>
 (AV.aZ w82).bind fun b83=>
 (qj.2.st (.n h.next) 0 [(.i .i64 RP),(.i .i64 Cc),(.i .i64 PQ),(.i .i64 RA),(.b b83)]).bind fun WC=>
 ai WC (.n h.next) 0 fun UP=>
 ai WC (.n h.next) 1 fun HY=>
 ai WC (.n h.next) 2 fun Wx=>
 ai WC (.n h.next) 3 fun Lj=>
 (WC.ld (.n h.next) 4).bind fun w93=>
 (AV.aZ w93).bind fun b94=>
 some ((.aG [(.agg [(.i .i64 UP),(.i .i64 HY),(.i .i64 Wx),(.i .i64 Lj),(.b b94)]),(.i .i64 0)]),WC))
 else none)
 else none)
 else none)
 else none)
 else none)
 else none
def MB:Sm O:=qls YU VT VV
theorem qlu:ag Tryz.prog 57:=Tryz.call57
theorem qlv (zi vr Fo:Sm O):run (O:=O) Tryz.prog [(110,zi),(111,vr),(87,Fo)] Tryz.f57 (.n .z (.n .z (.n (.n .z (.n (.lp false 0 [(4,.one .sl),(12,.one (.i .i64))] [(4,.one .sl)] (.n .z (.n .z (.n (.n .z .z) .z)))) .z)) (.n (.d [] [0,1,2,3,4,5,6,7,8,9,10,11,12,13,14,15,16,17,18,19] [0,1,3,0,8,24,63,0,128,384,0,1024,3072,0,8192,24576,57344,131071,0,524287]) (.n (.n .z (.n (.g [(2,3,[(53,.one .b)])]) (.n .z .z))) .z)))))=qls zi vr Fo:=by kernel_rfl
theorem qlw:ah RO Tryz.prog 57 MB:=bJ (qlv _ _ _) (ab qdk qdm <| ab qlo qlq <| ab qel qen <| aJ) Tryz.func57 (by kernel_rfl)
def qlx (Cd sQ:Sm O):Sm O:=fun xs h=>
 bif Nat.beq xs.length 2 then
 (AV.bH (xs.getD 0 .u)).bind fun p0=>
 cf xs 1 fun n1=>
 let h2:=h.ax 1
 let h3:=h2.put h.next (.cells true 39 [(.i .i64 0),(.i .i64 0),(.i .i64 0),(.i .i64 0),(.b false)])
 (Cd [(.p p0),(.i .u64 n1),(.i .i64 0)] h3).bind fun r4=>
 (AV.az 2 r4.1).bind fun c5=>
 cf c5 0 fun n6=>
 au c5 1 fun n7=>
 (bif ((n7:Int) != 0) then
 (r4.2.st (.n h.next) 0 [(.i .i64 0),(.i .i64 0),(.i .i64 0),(.i .i64 0),(.b false)]).bind fun h8=>
 ai h8 (.n h.next) 0 fun eu=>
 ai h8 (.n h.next) 1 fun eB=>
 ai h8 (.n h.next) 2 fun ig=>
 ai h8 (.n h.next) 3 fun iy=>
 (h8.ld (.n h.next) 4).bind fun w17=>
 (AV.aZ w17).bind fun Lv=>
 some ((.aG [(.agg [(.i .i64 eu),(.i .i64 eB),(.i .i64 ig),(.i .i64 iy),(.b Lv)]),(.i .i64 n7)]),h8)
 else (sQ [(.i .u64 n6)] r4.2).bind fun gY=>
 (AV.az 2 gY.1).bind fun Fi=>
 (AV.asAgg 5 (Fi.getD 0 .u)).bind fun xQ=>
 au xQ 0 fun gZ=>
 au xQ 1 fun fm=>
 au xQ 2 fun np=>
 au xQ 3 fun qi=>
 (AV.aZ (xQ.getD 4 .u)).bind fun b26=>
 au Fi 1 fun qy=>
 (gY.2.st (.n h.next) 0 [(.i .i64 gZ),(.i .i64 fm),(.i .i64 np),(.i .i64 qi),(.b b26)]).bind fun we=>
 ai we (.n h.next) 0 fun lN=>
 ai we (.n h.next) 1 fun nu=>
 ai we (.n h.next) 2 fun sL=>
 ai we (.n h.next) 3 fun qd=>
 (we.ld (.n h.next) 4).bind fun UQ=>
 (AV.aZ UQ).bind fun UR=>
 some ((.aG [(.agg [(.i .i64 lN),(.i .i64 nu),(.i .i64 sL),(.i .i64 qd),(.b UR)]),(.i .i64 qy)]),we))
 else none
def Q1:Sm O:=qlx NS MB
theorem qlz:ag Tryz.prog 13:=Tryz.call13
theorem ql0 (Cd sQ:Sm O):run (O:=O) Tryz.prog [(56,Cd),(57,sQ)] Tryz.f13 (.n .z (.n .z (.n (.n .z (.n .z .z)) .z)))=qlx Cd sQ:=by kernel_rfl
theorem ql1:ah RO Tryz.prog 13 Q1:=bJ (ql0 _ _) (ab qlj qll <| ab qlu qlw <| aJ) Tryz.func13 (by kernel_rfl)
def ql2 (qe:Sm O):Sm O:=fun xs h=>
 bif Nat.beq xs.length 2 then
 (AV.asAgg 2 (xs.getD 0 .u)).bind fun c0=>
 au c0 0 fun n1=>
 au c0 1 fun n2=>
 au xs 1 fun n3=>
 let h4:=h.ax 1
 let h5:=h4.put h.next (.cells true 37 [(.i .i64 n1),(.i .i64 n2)])
 ai h5 (.n h.next) 0 fun n7=>
 ai h5 (.n h.next) 1 fun n9=>
 (qe [(.agg [(.i .i64 n7),(.i .i64 n9)])] h5).bind fun ee=>
 (AV.aZ ee.1).bind fun Lx=>
 ((bif ((!Lx) == false) then
 some ([(.b (decide (n3<0)))],ee.2)
 else some ([(.b true)],ee.2)):Option (List AV × AH O)).bind fun ij=>
 (AV.aZ (ij.1.getD 0 .u)).bind fun Pt=>
 ((bif (Pt == false) then
 ai ij.2 (.n h.next) 1 fun dU=>
 some ([(.b (decide (n3>=dU)))],ij.2)
 else some ([(.b true)],ij.2)):Option (List AV × AH O)).bind fun gR=>
 (AV.aZ (gR.1.getD 0 .u)).bind fun Fh=>
 (bif Fh then
 some ((.aG [(.i .i64 0),(.i .i64 32)]),gR.2)
 else ai gR.2 (.n h.next) 0 fun fk=>
 let v20:Int:=(IntKind.i64.wrap ((IntKind.i64.wrap (1+fk))+n3))
 some ((.aG [(.i .i64 v20),(.i .i64 0)]),gR.2))
 else none
def ql3:Sm O:=ql2 TO
theorem ql4:ag Tryz.prog 96:=Tryz.call96
theorem ql5 (qe:Sm O):run (O:=O) Tryz.prog [(145,qe)] Tryz.f96 (.n .z (.n (.n (.g [(3,2,[(12,.one .b)]),(7,4,[(18,.one .b)])]) (.n .z .z)) .z))=ql2 qe:=by kernel_rfl
theorem ql6:ah RO Tryz.prog 96 ql3:=bJ (ql5 _) (ab qcz qc1 <| aJ) Tryz.func96 (by kernel_rfl)
def ql7 (qp sP Fs Fq:Sm O):Sm O:=fun xs h=>
 bif Nat.beq xs.length 4 then
 (AV.bH (xs.getD 0 .u)).bind fun p0=>
 cf xs 1 fun n1=>
 au xs 2 fun n2=>
 cf xs 3 fun n3=>
 (qp [(.i .u64 n1)] h).bind fun r4=>
 (AV.aX .i64 r4.1).bind fun n5=>
 (bif ((n5:Int) == 0) then
 some ((.i .i64 31),r4.2)
 else (bif ((n5:Int) == 1) then
 Option.bind p0 fun q6=>
 cV r4.2 q6.1 (q6.2+1) fun p8=>
 (sP [(.i .u64 n1)] r4.2).bind fun r9=>
 (AV.aX .i64 r9.1).bind fun eu=>
 (aO (r9.2.ld q6.1 (q6.2+1)) (some (.p p8))).bind fun _=>
 (Fs [(.p p8),(.i .i64 (IntKind.i64.wrap (eu+n2))),(.i .u64 n3)] r9.2).bind fun eM=>
 (AV.aX .i64 eM.1).bind fun eB=>
 some ((.i .i64 eB),eM.2)
 else (bif ((n5:Int) == 2) then
 Option.bind p0 fun kv=>
 cV r4.2 kv.1 ((kv.2+1)+1) fun LC=>
 (sP [(.i .u64 n1)] r4.2).bind fun gR=>
 (AV.aX .i64 gR.1).bind fun fq=>
 (aO (gR.2.ld kv.1 ((kv.2+1)+1)) (some (.p LC))).bind fun _=>
 (Fq [(.p LC),(.i .i64 fq),(.i .i64 n2),(.i .u64 n3)] gR.2).bind fun jn=>
 (AV.aX .i64 jn.1).bind fun fk=>
 some ((.i .i64 fk),jn.2)
 else some ((.i .i64 5),r4.2))))
 else none
def OD:Sm O:=ql7 De OC V0 Re
theorem ql9:ag Tryz.prog 97:=Tryz.call97
theorem qma (qp sP Fs Fq:Sm O):run (O:=O) Tryz.prog [(53,qp),(63,sP),(93,Fs),(90,Fq)] Tryz.f97 (.n .z (.n (.n .z (.n (.n .z (.n .z (.n .z (.n (.n (.d [] [0,1,2,3,4,5,7,9,6,8,10,11] [0,1,3,7,15,0,32,0,224,0,1023,2047]) .z) (.n .z (.n (.n (.d [] [0,1,2,3,4,5,7,8,6,9,10] [0,1,3,7,15,0,32,0,0,511,1023]) .z) .z)))))) .z)) .z))=ql7 qp sP Fs Fq:=by kernel_rfl
theorem qmb:ah RO Tryz.prog 97 OD:=bJ (qma _ _ _ _) (ab Wy Wz <| ab qk4 qk6 <| ab qj0 qj2 <| ab qi6 qi8 <| aJ) Tryz.func97 (by kernel_rfl)
def qmc (Ce k96 Cf:Sm O):Sm O:=fun xs h=>
 bif Nat.beq xs.length 4 then
 (AV.bH (xs.getD 0 .u)).bind fun p0=>
 cf xs 1 fun n1=>
 au xs 2 fun n2=>
 cf xs 3 fun n3=>
 let h4:=h.ax 1
 (Ce [(.p p0),(.i .u64 n1)] h4).bind fun r5=>
 (AV.az 2 r5.1).bind fun c6=>
 (AV.asAgg 5 (c6.getD 0 .u)).bind fun c7=>
 au c7 0 fun n8=>
 au c7 1 fun n9=>
 au c7 2 fun eu=>
 au c7 3 fun fc=>
 (AV.aZ (c7.getD 4 .u)).bind fun uQ=>
 au c6 1 fun fE=>
 let nC:=r5.2.put h.next (.cells true 39 [(.i .i64 0),(.i .i64 0),(.i .i64 0),(.i .i64 0),(.b false)])
 (nC.st (.n h.next) 0 [(.i .i64 n8),(.i .i64 n9),(.i .i64 eu),(.i .i64 fc),(.b uQ)]).bind fun tA=>
 (bif ((fE:Int) != 0) then
 some ((.i .i64 fE),tA)
 else ai tA (.n h.next) 0 fun fq=>
 ai tA (.n h.next) 1 fun fk=>
 (k96 [(.agg [(.i .i64 fq),(.i .i64 fk)]),(.i .i64 n2)] tA).bind fun gC=>
 (AV.az 2 gC.1).bind fun xQ=>
 au xQ 0 fun gZ=>
 au xQ 1 fun fm=>
 (bif ((fm:Int) != 0) then
 some ((.i .i64 fm),gC.2)
 else (Cf [(.p p0),(.i .u64 n1),(.i .i64 gZ),(.i .u64 n3)] gC.2).bind fun kV=>
 (AV.aX .i64 kV.1).bind fun qi=>
 some ((.i .i64 qi),kV.2)))
 else none
def QW:Sm O:=qmc Q1 ql3 OD
theorem qme:ag Tryz.prog 48:=Tryz.call48
theorem qmf (Ce k96 Cf:Sm O):run (O:=O) Tryz.prog [(13,Ce),(96,k96),(97,Cf)] Tryz.f48 (.n .z (.n .z (.n (.n .z (.n .z .z)) (.n .z (.n (.n .z (.n .z .z)) .z)))))=qmc Ce k96 Cf:=by kernel_rfl
theorem qmg:ah RO Tryz.prog 48 QW:=bJ (qmf _ _ _) (ab qlz ql1 <| ab ql4 ql6 <| ab ql9 qmb <| aJ) Tryz.func48 (by kernel_rfl)
def qmh:Sm O:=fun xs h=>
 bif Nat.beq xs.length 3 then
 (AV.asAgg 5 (xs.getD 0 .u)).bind fun c0=>
 au c0 0 fun n1=>
 au c0 1 fun n2=>
 au c0 2 fun n3=>
 au c0 3 fun n4=>
 cT c0 4 fun l5=>
 au xs 1 fun n6=>
 (AV.asAgg 8 (xs.getD 2 .u)).bind fun c7=>
 au c7 0 fun n8=>
 au c7 1 fun n9=>
 au c7 2 fun eu=>
 au c7 3 fun fc=>
 (AV.aZ (c7.getD 4 .u)).bind fun uQ=>
 cT c7 5 fun DE=>
 cT c7 6 fun sH=>
 cf c7 7 fun dU=>
 let sk:=h.ax 3
 let RL:=sk.put h.next (.cells true 105 [(.i .i64 n1),(.i .i64 n2),(.i .i64 n3),(.i .i64 n4),(.sl l5.1 l5.2)])
 let tC:=RL.put (h.next+1) (.cells true 42 [(.i .i64 n8),(.i .i64 n9),(.i .i64 eu),(.i .i64 fc),(.b uQ),(.sl DE.1 DE.2),(.sl sH.1 sH.2),(.i .u64 dU)])
 let vZ:=tC.put ((h.next+1)+1) (.cells true 105 [(.i .i64 0),(.i .i64 0),(.i .i64 0),(.i .i64 0),(.sl .nil 0)])
 let tx:=vZ.ax 2
 let He:=tx.put vZ.next (.cells true 42 [])
 aV He (.n h.next) 4 fun G9=>
 (He.bU G9.1 G9.2 8).bind fun LN=>
 (bif (Nat.ble ((0+G9.2)*97) 35184372088832) then
 (He.cL (vZ.next+1) 42 8 (.loc (.n vZ.next) 0 8) 0 G9.2 LN).bind fun ft=>
 (AV.eG ft.1).bind fun LO=>
 (ft.2.st (.n h.next) 4 [(.sl LO.1 LO.2)]).bind fun zh=>
 aV zh (.n h.next) 4 fun DK=>
 ai zh (.n (h.next+1)) 0 fun wg=>
 ai zh (.n (h.next+1)) 1 fun Hf=>
 ai zh (.n (h.next+1)) 2 fun zn=>
 ai zh (.n (h.next+1)) 3 fun B7=>
 (zh.ld (.n (h.next+1)) 4).bind fun w38=>
 (AV.aZ w38).bind fun b39=>
 aV zh (.n (h.next+1)) 5 fun R0=>
 aV zh (.n (h.next+1)) 6 fun R1=>
 cQ zh (.n (h.next+1)) 7 fun tB=>
 (bif ((decide ((0:Int)<=n6)) && (decide (n6<(DK.2:Int)))) then
 (SA.ref DK.1).bind fun q46=>
 (zh.st q46.1 (q46.2+(n6.toNat*8)) [(.i .i64 wg),(.i .i64 Hf),(.i .i64 zn),(.i .i64 B7),(.b b39),(.sl R0.1 R0.2),(.sl R1.1 R1.2),(.i .u64 tB)]).bind fun R2=>
 ai R2 (.n h.next) 0 fun sn=>
 ai R2 (.n h.next) 1 fun Fj=>
 ai R2 (.n h.next) 2 fun MQ=>
 ai R2 (.n h.next) 3 fun Pc=>
 aV R2 (.n h.next) 4 fun l57=>
 (R2.st (.n ((h.next+1)+1)) 0 [(.i .i64 sn),(.i .i64 Fj),(.i .i64 MQ),(.i .i64 Pc),(.sl l57.1 l57.2)]).bind fun WD=>
 ai WD (.n ((h.next+1)+1)) 0 fun B9=>
 ai WD (.n ((h.next+1)+1)) 1 fun LB=>
 ai WD (.n ((h.next+1)+1)) 2 fun Ba=>
 ai WD (.n ((h.next+1)+1)) 3 fun vD=>
 aV WD (.n ((h.next+1)+1)) 4 fun xM=>
 some ((.agg [(.i .i64 B9),(.i .i64 LB),(.i .i64 Ba),(.i .i64 vD),(.sl xM.1 xM.2)]),WD)
 else none)
 else none)
 else none
def K5:Sm O:=qmh
theorem qmj:ag Tryz.prog 98:=Tryz.call98
theorem qmk:run (O:=O) Tryz.prog [] Tryz.f98 (.n .z (.n .z (.n .z .z)))=qmh:=by kernel_rfl
theorem qml:ah RO Tryz.prog 98 K5:=bJ qmk (aJ) Tryz.func98 (by kernel_rfl)
def ZL (PR:Sm O):Sm O:=fun xs h=>
 bif Nat.beq xs.length 4 then
 (AV.asAgg 5 (xs.getD 0 .u)).bind fun c0=>
 au c0 0 fun n1=>
 au c0 1 fun n2=>
 au c0 2 fun n3=>
 au c0 3 fun n4=>
 cT c0 4 fun l5=>
 au xs 1 fun n6=>
 au xs 2 fun n7=>
 cf xs 3 fun n8=>
 let h9:=h.ax 2
 let fM:=h9.put h.next (.cells true 105 [(.i .i64 n1),(.i .i64 n2),(.i .i64 n3),(.i .i64 n4),(.sl l5.1 l5.2)])
 let hU:=fM.put (h.next+1) (.cells true 105 [(.i .i64 0),(.i .i64 0),(.i .i64 0),(.i .i64 0),(.sl .nil 0)])
 let mO:=hU.ax 1
 aV mO (.n h.next) 4 fun sH=>
 (bif ((decide ((0:Int)<=n6)) && (decide (n6<(sH.2:Int)))) then
 (SA.ref sH.1).bind fun kW=>
 ai mO kW.1 (kW.2+(n6.toNat*8)) fun fq=>
 ai mO kW.1 ((kW.2+(n6.toNat*8))+1) fun fk=>
 ai mO kW.1 (((kW.2+(n6.toNat*8))+1)+1) fun nR=>
 ai mO kW.1 ((((kW.2+(n6.toNat*8))+1)+1)+1) fun fm=>
 (mO.ld kW.1 (((((kW.2+(n6.toNat*8))+1)+1)+1)+1)).bind fun w24=>
 (AV.aZ w24).bind fun b25=>
 aV mO kW.1 ((((((kW.2+(n6.toNat*8))+1)+1)+1)+1)+1) fun MU=>
 aV mO kW.1 (((((((kW.2+(n6.toNat*8))+1)+1)+1)+1)+1)+1) fun DK=>
 cQ mO kW.1 ((((((((kW.2+(n6.toNat*8))+1)+1)+1)+1)+1)+1)+1) fun wg=>
 let Cg:=mO.put hU.next (.cells true 42 [(.i .i64 0),(.i .i64 0),(.i .i64 0),(.i .i64 0),(.b false),(.sl .nil 0),(.sl .nil 0),(.i .u64 0)])
 (Cg.st (.n hU.next) 0 [(.i .i64 fq),(.i .i64 fk),(.i .i64 nR),(.i .i64 fm),(.b b25),(.sl MU.1 MU.2),(.sl DK.1 DK.2),(.i .u64 wg)]).bind fun sM=>
 ((bif ((decide (n7<0)) == false) then
 aV sM (.n hU.next) 6 fun PT=>
 some ([(.b (decide (n7>=(PT.2:Int))))],sM)
 else some ([(.b true)],sM)):Option (List AV × AH O)).bind fun r36=>
 (AV.aZ (r36.1.getD 0 .u)).bind fun b37=>
 (bif b37 then
 ai r36.2 (.n h.next) 0 fun vk=>
 ai r36.2 (.n h.next) 1 fun Hi=>
 ai r36.2 (.n h.next) 2 fun vC=>
 ai r36.2 (.n h.next) 3 fun tB=>
 aV r36.2 (.n h.next) 4 fun R3=>
 (r36.2.st (.n (h.next+1)) 0 [(.i .i64 vk),(.i .i64 Hi),(.i .i64 vC),(.i .i64 tB),(.sl R3.1 R3.2)]).bind fun BA=>
 ai BA (.n (h.next+1)) 0 fun zb=>
 ai BA (.n (h.next+1)) 1 fun B4=>
 ai BA (.n (h.next+1)) 2 fun zO=>
 ai BA (.n (h.next+1)) 3 fun BD=>
 aV BA (.n (h.next+1)) 4 fun LP=>
 some ((.aG [(.agg [(.i .i64 zb),(.i .i64 B4),(.i .i64 zO),(.i .i64 BD),(.sl LP.1 LP.2)]),(.i .i64 32)]),BA)
 else let h59:=r36.2.ax 2
 let LQ:=h59.put r36.2.next (.cells true 33 [])
 aV LQ (.n hU.next) 6 fun xS=>
 (LQ.bU xS.1 xS.2 1).bind fun BF=>
 (bif (Nat.ble ((0+xS.2)*9) 35184372088832) then
 (LQ.cL (r36.2.next+1) 33 1 (.loc (.n r36.2.next) 0 1) 0 xS.2 BF).bind fun xT=>
 (AV.eG xT.1).bind fun PU=>
 (xT.2.st (.n hU.next) 6 [(.sl PU.1 PU.2)]).bind fun MR=>
 aV MR (.n hU.next) 6 fun xM=>
 (bif ((decide ((0:Int)<=n7)) && (decide (n7<(xM.2:Int)))) then
 (SA.ref xM.1).bind fun MP=>
 (MR.st MP.1 (MP.2+(n7.toNat*1)) [(.i .u64 n8)]).bind fun nv=>
 ai nv (.n h.next) 0 fun Ry=>
 ai nv (.n h.next) 1 fun Hh=>
 ai nv (.n h.next) 2 fun Bw=>
 ai nv (.n h.next) 3 fun LF=>
 aV nv (.n h.next) 4 fun zu=>
 ai nv (.n hU.next) 0 fun Pz=>
 ai nv (.n hU.next) 1 fun Ib=>
 ai nv (.n hU.next) 2 fun UP=>
 ai nv (.n hU.next) 3 fun HY=>
 (nv.ld (.n hU.next) 4).bind fun w89=>
 (AV.aZ w89).bind fun b90=>
 aV nv (.n hU.next) 5 fun R4=>
 aV nv (.n hU.next) 6 fun R5=>
 cQ nv (.n hU.next) 7 fun Ca=>
 (PR [(.agg [(.i .i64 Ry),(.i .i64 Hh),(.i .i64 Bw),(.i .i64 LF),(.sl zu.1 zu.2)]),(.i .i64 n6),(.agg [(.i .i64 Pz),(.i .i64 Ib),(.i .i64 UP),(.i .i64 HY),(.b b90),(.sl R4.1 R4.2),(.sl R5.1 R5.2),(.i .u64 Ca)])] nv).bind fun r97=>
 (AV.asAgg 5 r97.1).bind fun LR=>
 au LR 0 fun n99=>
 au LR 1 fun LJ=>
 au LR 2 fun zp=>
 au LR 3 fun Ho=>
 cT LR 4 fun BG=>
 (r97.2.st (.n (h.next+1)) 0 [(.i .i64 n99),(.i .i64 LJ),(.i .i64 zp),(.i .i64 Ho),(.sl BG.1 BG.2)]).bind fun rH=>
 ai rH (.n (h.next+1)) 0 fun sR=>
 ai rH (.n (h.next+1)) 1 fun Hp=>
 ai rH (.n (h.next+1)) 2 fun Ll=>
 ai rH (.n (h.next+1)) 3 fun Lm=>
 aV rH (.n (h.next+1)) 4 fun LS=>
 some ((.aG [(.agg [(.i .i64 sR),(.i .i64 Hp),(.i .i64 Ll),(.i .i64 Lm),(.sl LS.1 LS.2)]),(.i .i64 0)]),rH)
 else none)
 else none))
 else none)
 else none
def SV:Sm O:=vB (ZL K5)
theorem qmo:ag Tryz.prog 49:=Tryz.call49
theorem qmp (PR:Sm O):run (O:=O) Tryz.prog [(98,PR)] Tryz.f49 (.n .z (.n .z (.n (.n (.g [(2,5,[(24,.one .b)])]) (.n .z .z)) (.n .z (.n .z .z)))))=ZL PR:=by kernel_rfl
theorem qmq:ah RO Tryz.prog 49 (SV):=
   have h:ah RO Tryz.prog 49 (ZL K5):=(qmp K5)▸eY (ab qmj (qml) <| aJ) mixed Tryz.func49 (by kernel_rfl) _
   h.vB
def XP (fV:List AV × AH O) (fm:Int) (l0:SA × Nat) (R6:Sm O) (p3:Option (fJ × Nat)) (Ff:Int) (fP:List AV × AH O) (R8:Sm O):List AV × AH O->Option ((List AV × AH O) ⊕ ((List AV × AH O) ⊕ ((List AV × AH O) ⊕ ((List AV × AH O) ⊕ (AV × AH O))))):=(fun vE=>
 (AV.aX .i64 (vE.1.getD 0 .u)).bind fun Cc=>
 ai vE.2 (.n fV.2.next) 1 fun PQ=>
 (bif (decide (Cc<PQ)) then
 (bif ((decide ((0:Int)<=fm)) && (decide (fm<(l0.2:Int)))) then
 (SA.ref l0.1).bind fun q80=>
 cQ vE.2 q80.1 ((q80.2+(fm.toNat*4))+3) fun Pz=>
 let v83:Int:=(IntKind.u64.wrap (Pz+(IntKind.u64.wrap Cc)))
 (R6 [(.p p3),(.i .u64 Ff),(.i .i64 Cc),(.i .u64 v83)] vE.2).bind fun PW=>
 (AV.aX .i64 PW.1).bind fun RX=>
 (bif ((RX:Int) != 0) then
 ((((some ((.aG [(.p none),(.sl .nil 0),(.b false)]),PW.2):Option (AV × AH O)).map fun r=>Sum.inr (Sum.inr r)):Option ((List AV × AH O) ⊕ ((List AV × AH O) ⊕ (AV × AH O)))).map fun r=>Sum.inr (Sum.inr r))
 else ai PW.2 (.n fP.2.next) 0 fun LI=>
 ai PW.2 (.n fP.2.next) 1 fun n89=>
 ai PW.2 (.n fP.2.next) 2 fun n91=>
 ai PW.2 (.n fP.2.next) 3 fun US=>
 aV PW.2 (.n fP.2.next) 4 fun l95=>
 (bif ((decide ((0:Int)<=fm)) && (decide (fm<(l0.2:Int)))) then
 (SA.ref l0.1).bind fun q96=>
 cQ PW.2 q96.1 ((q96.2+(fm.toNat*4))+3) fun n98=>
 let v99:Int:=(IntKind.u64.wrap (n98+(IntKind.u64.wrap Cc)))
 (R8 [(.agg [(.i .i64 LI),(.i .i64 n89),(.i .i64 n91),(.i .i64 US),(.sl l95.1 l95.2)]),(.i .i64 fm),(.i .i64 Cc),(.i .u64 v99)] PW.2).bind fun abd=>
 (AV.az 2 abd.1).bind fun abe=>
 (AV.asAgg 5 (abe.getD 0 .u)).bind fun LU=>
 au LU 0 fun LG=>
 au LU 1 fun LV=>
 au LU 2 fun zq=>
 au LU 3 fun sR=>
 cT LU 4 fun Lk=>
 au abe 1 fun Hp=>
 (abd.2.st (.n fP.2.next) 0 [(.i .i64 LG),(.i .i64 LV),(.i .i64 zq),(.i .i64 sR),(.sl Lk.1 Lk.2)]).bind fun wm=>
 some (Sum.inl ([(.i .i64 (IntKind.i64.wrap (Cc+1)))],wm))
 else none))
 else none)
 else some (Sum.inr (Sum.inl ([],vE.2)))))
def XT (l0:SA × Nat) (WE:Sm O) (p3:Option (fJ × Nat)) (fP:List AV × AH O) (WG:Sm O) (R6:Sm O) (R8:Sm O):List AV × AH O->Option ((List AV × AH O) ⊕ ((List AV × AH O) ⊕ (AV × AH O))):=(fun fV=>
 (AV.aX .i64 (fV.1.getD 0 .u)).bind fun fm=>
 (bif (decide (fm<(l0.2:Int))) then
 let BB:=fV.2.ax 1
 (bif ((decide ((0:Int)<=fm)) && (decide (fm<(l0.2:Int)))) then
 (SA.ref l0.1).bind fun MV=>
 ai BB MV.1 (MV.2+(fm.toNat*4)) fun qy=>
 (bif ((decide ((0:Int)<=fm)) && (decide (fm<(l0.2:Int)))) then
 (SA.ref l0.1).bind fun UZ=>
 ai BB UZ.1 ((UZ.2+(fm.toNat*4))+1) fun lN=>
 let Fe:=BB.put fV.2.next (.cells true 37 [(.i .i64 0),(.i .i64 0)])
 (Fe.st (.n fV.2.next) 0 [(.i .i64 (bK .and .i64 qy 15)),(.i .i64 (bK .and .i64 lN 15))]).bind fun Cg=>
 ai Cg (.n fV.2.next) 0 fun sL=>
 ai Cg (.n fV.2.next) 1 fun qd=>
 (bif ((decide ((0:Int)<=fm)) && (decide (fm<(l0.2:Int)))) then
 (SA.ref l0.1).bind fun LW=>
 (Cg.ld LW.1 ((LW.2+(fm.toNat*4))+2)).bind fun w38=>
 (AV.aX .u8 w38).bind fun vk=>
 (WE [(.p p3),(.agg [(.i .i64 sL),(.i .i64 qd)]),(.i .i64 (IntKind.i64.wrap (bK .and .u8 vk 31)))] Cg).bind fun Ft=>
 (AV.az 2 Ft.1).bind fun c41=>
 cf c41 0 fun Ff=>
 au c41 1 fun vC=>
 ai Ft.2 (.n fP.2.next) 0 fun tB=>
 ai Ft.2 (.n fP.2.next) 1 fun Hg=>
 ai Ft.2 (.n fP.2.next) 2 fun sn=>
 ai Ft.2 (.n fP.2.next) 3 fun Fj=>
 aV Ft.2 (.n fP.2.next) 4 fun tD=>
 ai Ft.2 (.n fV.2.next) 0 fun Pc=>
 ai Ft.2 (.n fV.2.next) 1 fun G0=>
 (bif ((decide ((0:Int)<=fm)) && (decide (fm<(l0.2:Int)))) then
 (SA.ref l0.1).bind fun RW=>
 (Ft.2.ld RW.1 ((RW.2+(fm.toNat*4))+2)).bind fun w59=>
 (AV.aX .u8 w59).bind fun B9=>
 (WG [(.agg [(.i .i64 tB),(.i .i64 Hg),(.i .i64 sn),(.i .i64 Fj),(.sl tD.1 tD.2)]),(.agg [(.i .i64 Pc),(.i .i64 G0)]),(.i .i64 (IntKind.i64.wrap (bK .and .u8 B9 31)))] Ft.2).bind fun qj=>
 (AV.az 3 qj.1).bind fun c62=>
 (AV.asAgg 5 (c62.getD 0 .u)).bind fun c63=>
 au c63 0 fun Ba=>
 au c63 1 fun H'=>
 au c63 2 fun vD=>
 au c63 3 fun Ia=>
 cT c63 4 fun xM=>
 cf c62 1 fun PO=>
 au c62 2 fun RY=>
 (qj.2.st (.n fP.2.next) 0 [(.i .i64 Ba),(.i .i64 H'),(.i .i64 vD),(.i .i64 Ia),(.sl xM.1 xM.2)]).bind fun h71=>
 ((bif (((vC:Int) != 0) == false) then
 some ([(.b ((RY:Int) != 0))],h71)
 else some ([(.b true)],h71)):Option (List AV × AH O)).bind fun DP=>
 (AV.aZ (DP.1.getD 0 .u)).bind fun b73=>
 ((bif (b73 == false) then
 some ([(.b ((Ff:Int) != PO))],DP.2)
 else some ([(.b true)],DP.2)):Option (List AV × AH O)).bind fun Fk=>
 (AV.aZ (Fk.1.getD 0 .u)).bind fun b75=>
 (bif b75 then
 ((some ((.aG [(.p none),(.sl .nil 0),(.b false)]),Fk.2):Option (AV × AH O)).map fun r=>Sum.inr (Sum.inr r))
 else cE (S:=List AV × AH O) (R:=((List AV × AH O) ⊕ ((List AV × AH O) ⊕ (AV × AH O)))) (bu (S:=List AV × AH O) (T:=(List AV × AH O) ⊕ ((List AV × AH O) ⊕ ((List AV × AH O) ⊕ (AV × AH O)))) (XP fV fm l0 R6 p3 Ff fP R8) ([(.i .i64 0)],Fk.2)) fun alL=>
 some (Sum.inl ([(.i .i64 (IntKind.i64.wrap (fm+1)))],alL.2)))
 else none)
 else none)
 else none)
 else none)
 else some (Sum.inr (Sum.inl ([],fV.2)))))
def qmt (k45 jL oW Ie WE WG R6 R8:Sm O):Sm O:=fun xs h=>
 bif Nat.beq xs.length 1 then
 cT xs 0 fun l0=>
 (k45 [(.i .i64 8),(.i .i64 (IntKind.i64.wrap (8*(l0.2:Int))))] h).bind fun r1=>
 (AV.az 2 r1.1).bind fun c2=>
 (AV.bH (c2.getD 0 .u)).bind fun p3=>
 au c2 1 fun n4=>
 ((bif ((Option.isNone p3) == false) then
 some ([(.b ((n4:Int) != 0))],r1.2)
 else some ([(.b true)],r1.2)):Option (List AV × AH O)).bind fun r5=>
 (AV.aZ (r5.1.getD 0 .u)).bind fun b6=>
 ((bif (b6 == false) then
 (jL [(.p p3)] r5.2).bind fun r7=>
 (AV.bH r7.1).bind fun p8=>
 some ([(.b (Option.isNone p8))],r7.2)
 else some ([(.b true)],r5.2)):Option (List AV × AH O)).bind fun r9=>
 (AV.aZ (r9.1.getD 0 .u)).bind fun G8=>
 ((bif (G8 == false) then
 (oW [(.p p3)] r9.2).bind fun eM=>
 (AV.bH eM.1).bind fun Fg=>
 some ([(.b (Option.isNone Fg))],eM.2)
 else some ([(.b true)],r9.2)):Option (List AV × AH O)).bind fun fA=>
 (AV.aZ (fA.1.getD 0 .u)).bind fun Of=>
 ((bif (Of == false) then
 (Ie [(.p p3)] fA.2).bind fun iw=>
 (AV.bH iw.1).bind fun xP=>
 some ([(.b (Option.isNone xP))],iw.2)
 else some ([(.b true)],fA.2)):Option (List AV × AH O)).bind fun fP=>
 (AV.aZ (fP.1.getD 0 .u)).bind fun Lv=>
 (bif Lv then
 some ((.aG [(.p none),(.sl .nil 0),(.b false)]),fP.2)
 else let vZ:=fP.2.ax 1
 let tx:=vZ.put fP.2.next (.cells true 105 [(.i .i64 0),(.i .i64 0),(.i .i64 0),(.i .i64 0),(.sl .nil 0)])
 (tx.st (.n fP.2.next) 0 [(.i .i64 8),(.i .i64 (IntKind.i64.wrap (8*(l0.2:Int)))),(.i .i64 0),(.i .i64 0),(.sl .nil 0)]).bind fun He=>
 cE (S:=List AV × AH O) (R:=(AV × AH O)) (bu (S:=List AV × AH O) (T:=(List AV × AH O) ⊕ (AV × AH O)) (XT l0 WE p3 fP WG R6 R8) ([(.i .i64 0)],He)) fun abg=>
 aV abg.2 (.n fP.2.next) 4 fun BE=>
 some ((.aG [(.p p3),(.sl BE.1 BE.2),(.b true)]),abg.2))
 else none
def XV:Sm O:=qmt qb4 xj BW QY NM XU QW SV
theorem qmv:ag Tryz.prog 9:=Tryz.call9
theorem qmw (k45 jL oW Ie WE WG R6 R8:Sm O):run (O:=O) Tryz.prog [(45,k45),(23,jL),(32,oW),(16,Ie),(46,WE),(47,WG),(48,R6),(49,R8)] Tryz.f9 (.n .z (.n .z (.n (.n (.g [(2,2,[(27,.one .b)]),(6,3,[(32,.one .b)]),(11,3,[(37,.one .b)]),(16,3,[(42,.one .b)])]) (.n .z .z)) (.n .z (.n (.n .z (.n (.lp true 0 [(8,.one (.i .i64))] [] (.n (.n .z .z) (.n (.n (.n (.d [] [0,1,2,3,4,5,6,7,8,9,10,11,12,13,14,15,16] [0,0,3,7,15,31,63,0,0,384,896,1920,3968,8064,16383,0,65535]) (.n (.d [] [0,1,2,3,4,5,6,7,8,9,10,11,12,13,14] [0,0,0,0,12,28,60,124,252,511,1023,2047,2047,4095,16383]) (.n .z (.n .z (.n (.d [] [0,1,2,3,4,5,6,7,8,9,10,11,12,13,14,15,16] [0,0,0,0,12,28,60,124,252,511,1023,2047,2047,2047,4095,24575,65535]) (.n (.n (.g [(2,2,[(100,.one .b)]),(6,3,[(105,.one .b)])]) (.n .z .z)) (.n .z (.n (.lp true 2 [(14,.one (.i .i64))] [] (.n (.n .z .z) (.n (.n (.n (.n .z (.n .z .z)) (.d [] [0,1,2,3,4,5,6,7,8,9,10,11,12,13,14,15] [0,0,0,0,0,24,56,120,0,256,1016,2047,4095,8191,8191,16383])) .z) .z))) .z)))))))) .z) .z))) .z)) (.n (.d [] [0,1,2,3,4,5] [0,0,2,1,15,31]) .z))))))=qmt k45 jL oW Ie WE WG R6 R8:=by kernel_rfl
theorem qmx:ah RO Tryz.prog 9 XV:=bJ (qmw _ _ _ _ _ _ _ _) (ab qb5 qb7 <| ab RG RH <| ab Wr Ws <| ab qck qcm <| ab qka qkc <| ab qku qkw <| ab qme qmg <| ab qmo qmq <| aJ) Tryz.func9 (by kernel_rfl)
def qmy:Sm O:=fun xs h=>
 bif Nat.beq xs.length 1 then
 (AV.asAgg 5 (xs.getD 0 .u)).bind fun c0=>
 au c0 0 fun n1=>
 au c0 1 fun n2=>
 au c0 2 fun n3=>
 au c0 3 fun n4=>
 (AV.aZ (c0.getD 4 .u)).bind fun b5=>
 let h6:=h.ax 1
 let h7:=h6.put h.next (.cells true 39 [(.i .i64 n1),(.i .i64 n2),(.i .i64 n3),(.i .i64 n4),(.b b5)])
 some ((.aG []),h7)
 else none
def V6:Sm O:=qmy
theorem qm0:ag Tryz.prog 50:=Tryz.call50
theorem qm1:run (O:=O) Tryz.prog [] Tryz.f50 .z=qmy:=by kernel_rfl
theorem qm2:ah RO Tryz.prog 50 V6:=bJ qm1 (aJ) Tryz.func50 (by kernel_rfl)
def qm3 (R9:Sm O):Sm O:=fun xs h=>
 bif Nat.beq xs.length 2 then
 (AV.bH (xs.getD 0 .u)).bind fun p0=>
 (AV.Vb (xs.getD 1 .u)).bind fun f1=>
 ((bif (Option.isNone f1) then
 some ([(.fn (some (.func 50,[],[])))],h)
 else some ([(.fn f1)],h)):Option (List AV × AH O)).bind fun r2=>
 (AV.Vb (r2.1.getD 0 .u)).bind fun f3=>
 let h4:=r2.2.ax 1
 let h5:=h4.put r2.2.next (.cells true 113 [(.p p0),(.fn f3),(.i .i64 0)])
 some ((.p (some ((.n r2.2.next),0))),h5)
 else none
def Zi:Sm O:=qm3 V6
theorem qm5:ag Tryz.prog 10:=Tryz.call10
theorem qm6 (R9:Sm O):run (O:=O) Tryz.prog [(50,R9)] Tryz.f10 (.n .z (.n (.n .z (.j false [(1,.one .f)] .z .z)) .z))=qm3 R9:=by kernel_rfl
theorem qm7:ah RO Tryz.prog 10 Zi:=bJ (qm6 _) (ab qm0 qm2 <| aJ) Tryz.func10 (by kernel_rfl)
def Rk:Sm O:=fun xs h=>
 bif Nat.beq xs.length 1 then
 (AV.bH (xs.getD 0 .u)).bind fun p0=>
 Option.bind p0 fun q1=>
 cV h q1.1 q1.2 fun p3=>
 some ((.p p3),h)
 else none
def KJ:Sm O:=Rk
theorem qna:ag Tryz.prog 44:=Tryz.call44
theorem qnb:run (O:=O) Tryz.prog [] Tryz.f44 (.n .z .z)=Rk:=by kernel_rfl
theorem qnc:ah RO Tryz.prog 44 KJ:=bJ qnb (aJ) Tryz.func44 (by kernel_rfl)
def Tj:Sm O:=fun xs h=>
 bif Nat.beq xs.length 1 then
 (AV.bH (xs.getD 0 .u)).bind fun p0=>
 Option.bind p0 fun q1=>
 ai h q1.1 ((q1.2+1)+1) fun n3=>
 some ((.i .i64 n3),h)
 else none
def Oa:Sm O:=Tj
theorem qnf:ag Tryz.prog 24:=Tryz.call24
theorem qng:run (O:=O) Tryz.prog [] Tryz.f24 (.n .z .z)=Tj:=by kernel_rfl
theorem qnh:ah RO Tryz.prog 24 Oa:=bJ qng (aJ) Tryz.func24 (by kernel_rfl)
def qni (zf:Sm O):Sm O:=fun xs h=>
 bif Nat.beq xs.length 2 then
 (AV.bH (xs.getD 0 .u)).bind fun p0=>
 au xs 1 fun n1=>
 Option.bind p0 fun q2=>
 (h.ld q2.1 (q2.2+5)).bind fun w3=>
 (AV.aZ w3).bind fun b4=>
 (bif b4 then
 some ((.i .i64 1),h)
 else Option.bind p0 fun q5=>
 cV h q5.1 q5.2 fun p7=>
 (zf [(.p p7),(.i .i64 n1)] h).bind fun r8=>
 (AV.az 2 r8.1).bind fun c9=>
 au c9 0 fun eu=>
 au c9 1 fun fc=>
 (bif ((fc:Int) != 0) then
 some ((.i .i64 fc),r8.2)
 else Option.bind p0 fun zj=>
 ai r8.2 zj.1 (zj.2+1) fun ig=>
 ai r8.2 zj.1 ((zj.2+1)+1) fun iy=>
 Option.bind p0 fun vn=>
 (r8.2.st vn.1 (vn.2+3) [(.i .i64 ig),(.i .i64 iy)]).bind fun tC=>
 Option.bind p0 fun Hb=>
 (tC.st Hb.1 (Hb.2+1) [(.i .i64 eu),(.i .i64 0)]).bind fun tx=>
 Option.bind p0 fun RK=>
 (tx.st RK.1 (RK.2+5) [(.b true)]).bind fun DT=>
 some ((.i .i64 0),DT)))
 else none
def qnj:Sm O:=qni B2
theorem qnk:ag Tryz.prog 51:=Tryz.call51
theorem qnl (zf:Sm O):run (O:=O) Tryz.prog [(99,zf)] Tryz.f51 (.n .z (.n (.n .z (.n .z .z)) (.n .z (.n (.n .z (.n .z .z)) (.n .z .z)))))=qni zf:=by kernel_rfl
theorem qnm:ah RO Tryz.prog 51 qnj:=bJ (qnl _) (ab qbl qbn <| aJ) Tryz.func51 (by kernel_rfl)
def qnn (qk lM:Sm O):Sm O:=fun xs h=>
 bif Nat.beq xs.length 3 then
 (AV.asAgg 5 (xs.getD 0 .u)).bind fun c0=>
 (AV.bH (c0.getD 0 .u)).bind fun p1=>
 au c0 1 fun n2=>
 au c0 2 fun n3=>
 au c0 3 fun n4=>
 au c0 4 fun n5=>
 (AV.asAgg 3 (xs.getD 1 .u)).bind fun c6=>
 au c6 0 fun n7=>
 au c6 1 fun n8=>
 au c6 2 fun n9=>
 (AV.asAgg 3 (xs.getD 2 .u)).bind fun ML=>
 au ML 0 fun fc=>
 au ML 1 fun eB=>
 au ML 2 fun fE=>
 let nC:=h.ax 4
 let tA:=nC.put h.next (.cells true 184 [(.p p1),(.i .i64 n2),(.i .i64 n3),(.i .i64 n4),(.i .i64 n5)])
 let sk:=tA.put (h.next+1) (.cells true 155 [(.i .i64 n7),(.i .i64 n8),(.i .i64 n9)])
 let RL:=sk.put ((h.next+1)+1) (.cells true 155 [(.i .i64 fc),(.i .i64 eB),(.i .i64 fE)])
 let tC:=RL.put (((h.next+1)+1)+1) (.cells true 155 [(.i .i64 0),(.i .i64 0),(.i .i64 0)])
 cV tC (.n h.next) 0 fun p20=>
 ai tC (.n h.next) 1 fun gZ=>
 ai tC (.n h.next) 2 fun np=>
 ai tC (.n h.next) 3 fun eJ=>
 ai tC (.n h.next) 4 fun nq=>
 (qk [(.agg [(.p p20),(.i .i64 gZ),(.i .i64 np),(.i .i64 eJ),(.i .i64 nq)])] tC).bind fun jC=>
 (AV.aZ jC.1).bind fun b30=>
 (bif (!b30) then
 ai jC.2 (.n (h.next+1)) 0 fun nu=>
 ai jC.2 (.n (h.next+1)) 1 fun sL=>
 ai jC.2 (.n (h.next+1)) 2 fun qd=>
 (jC.2.st (.n (((h.next+1)+1)+1)) 0 [(.i .i64 nu),(.i .i64 sL),(.i .i64 qd)]).bind fun zL=>
 ai zL (.n (((h.next+1)+1)+1)) 0 fun vk=>
 ai zL (.n (((h.next+1)+1)+1)) 1 fun Hi=>
 ai zL (.n (((h.next+1)+1)+1)) 2 fun vC=>
 some ((.aG [(.agg [(.i .i64 vk),(.i .i64 Hi),(.i .i64 vC)]),(.i .i64 1)]),zL)
 else ai jC.2 (.n (h.next+1)) 2 fun tB=>
 (bif ((tB:Int) == 0) then
 ai jC.2 (.n ((h.next+1)+1)) 0 fun Hg=>
 ai jC.2 (.n ((h.next+1)+1)) 1 fun sn=>
 ai jC.2 (.n ((h.next+1)+1)) 2 fun Fj=>
 (jC.2.st (.n (((h.next+1)+1)+1)) 0 [(.i .i64 Hg),(.i .i64 sn),(.i .i64 Fj)]).bind fun sI=>
 ai sI (.n (((h.next+1)+1)+1)) 0 fun zO=>
 ai sI (.n (((h.next+1)+1)+1)) 1 fun BD=>
 ai sI (.n (((h.next+1)+1)+1)) 2 fun H0=>
 some ((.aG [(.agg [(.i .i64 zO),(.i .i64 BD),(.i .i64 H0)]),(.i .i64 0)]),sI)
 else ai jC.2 (.n ((h.next+1)+1)) 2 fun B9=>
 (bif ((B9:Int) == 0) then
 ai jC.2 (.n (h.next+1)) 0 fun LB=>
 ai jC.2 (.n (h.next+1)) 1 fun Ba=>
 ai jC.2 (.n (h.next+1)) 2 fun vD=>
 (jC.2.st (.n (((h.next+1)+1)+1)) 0 [(.i .i64 LB),(.i .i64 Ba),(.i .i64 vD)]).bind fun h67=>
 ai h67 (.n (((h.next+1)+1)+1)) 0 fun PO=>
 ai h67 (.n (((h.next+1)+1)+1)) 1 fun H3=>
 ai h67 (.n (((h.next+1)+1)+1)) 2 fun UL=>
 some ((.aG [(.agg [(.i .i64 PO),(.i .i64 H3),(.i .i64 UL)]),(.i .i64 0)]),h67)
 else cV jC.2 (.n h.next) 0 fun p75=>
 ai jC.2 (.n h.next) 1 fun Cc=>
 ai jC.2 (.n h.next) 2 fun PQ=>
 ai jC.2 (.n h.next) 3 fun RA=>
 ai jC.2 (.n h.next) 4 fun n83=>
 ai jC.2 (.n (h.next+1)) 1 fun RX=>
 ai jC.2 (.n h.next) 3 fun LI=>
 ai jC.2 (.n ((h.next+1)+1)) 0 fun n89=>
 (lM [(.agg [(.p p75),(.i .i64 Cc),(.i .i64 PQ),(.i .i64 RA),(.i .i64 n83)]),(.i .i64 RX),(.i .i64 LI),(.i .i64 n89)] jC.2).bind fun MW=>
 (AV.az 0 MW.1).bind fun c91=>
 cV MW.2 (.n h.next) 0 fun p93=>
 ai MW.2 (.n h.next) 1 fun n95=>
 ai MW.2 (.n h.next) 2 fun n97=>
 ai MW.2 (.n h.next) 3 fun n99=>
 ai MW.2 (.n h.next) 4 fun zp=>
 ai MW.2 (.n ((h.next+1)+1)) 0 fun LG=>
 ai MW.2 (.n h.next) 4 fun zq=>
 ai MW.2 (.n (h.next+1)) 1 fun LK=>
 (lM [(.agg [(.p p93),(.i .i64 n95),(.i .i64 n97),(.i .i64 n99),(.i .i64 zp)]),(.i .i64 LG),(.i .i64 zq),(.i .i64 LK)] MW.2).bind fun Hq=>
 (AV.az 0 Hq.1).bind fun axU=>
 ai Hq.2 (.n (h.next+1)) 0 fun sN=>
 ai Hq.2 (.n ((h.next+1)+1)) 1 fun BH=>
 ai Hq.2 (.n (h.next+1)) 2 fun LL=>
 ai Hq.2 (.n ((h.next+1)+1)) 2 fun abj=>
 (Hq.2.st (.n (((h.next+1)+1)+1)) 0 [(.i .i64 sN),(.i .i64 BH),(.i .i64 (IntKind.i64.wrap (LL+abj)))]).bind fun PX=>
 ai PX (.n (((h.next+1)+1)+1)) 0 fun alS=>
 ai PX (.n (((h.next+1)+1)+1)) 1 fun DF=>
 ai PX (.n (((h.next+1)+1)+1)) 2 fun Ul=>
 some ((.aG [(.agg [(.i .i64 alS),(.i .i64 DF),(.i .i64 Ul)]),(.i .i64 0)]),PX))))
 else none
def qno:Sm O:=qnn VO VQ
theorem qnp:ag Tryz.prog 101:=Tryz.call101
theorem qnq (qk lM:Sm O):run (O:=O) Tryz.prog [(148,qk),(149,lM)] Tryz.f101 (.n .z (.n (.n (.n .z (.n .z (.n .z (.n .z (.n .z (.n .z .z)))))) .z) (.n .z (.n .z .z))))=qnn qk lM:=by kernel_rfl
theorem qnr:ah RO Tryz.prog 101 qno:=bJ (qnq _ _) (ab qhx qhz <| ab qim qio <| aJ) Tryz.func101 (by kernel_rfl)
def qns (gD PY:Sm O):Sm O:=fun xs h=>
 bif Nat.beq xs.length 1 then
 (AV.bH (xs.getD 0 .u)).bind fun p0=>
 Option.bind p0 fun q1=>
 cQ h q1.1 (q1.2+8) fun n3=>
 Option.bind p0 fun q4=>
 (h.st q4.1 (q4.2+8) [(.i .u64 (IntKind.u64.wrap (n3+1)))]).bind fun h5=>
 Option.bind p0 fun q6=>
 ai h5 q6.1 (q6.2+5) fun n8=>
 ai h5 q6.1 ((q6.2+5)+1) fun eu=>
 ai h5 q6.1 (((q6.2+5)+1)+1) fun eB=>
 Option.bind p0 fun kv=>
 ai h5 kv.1 (kv.2+2) fun dU=>
 ai h5 kv.1 ((kv.2+2)+1) fun fq=>
 ai h5 kv.1 (((kv.2+2)+1)+1) fun fk=>
 (gD [(.p p0)] h5).bind fun gC=>
 (AV.asAgg 5 gC.1).bind fun xQ=>
 (AV.bH (xQ.getD 0 .u)).bind fun UO=>
 au xQ 1 fun fm=>
 au xQ 2 fun np=>
 au xQ 3 fun qi=>
 au xQ 4 fun eJ=>
 (aO (gC.2.ld q6.1 (q6.2+5)) (some (.i .i64 n8))).bind fun _=>
 (aO (gC.2.ld q6.1 ((q6.2+5)+1)) (some (.i .i64 eu))).bind fun _=>
 (aO (gC.2.ld q6.1 (((q6.2+5)+1)+1)) (some (.i .i64 eB))).bind fun _=>
 (aO (gC.2.ld kv.1 (kv.2+2)) (some (.i .i64 dU))).bind fun _=>
 (aO (gC.2.ld kv.1 ((kv.2+2)+1)) (some (.i .i64 fq))).bind fun _=>
 (aO (gC.2.ld kv.1 (((kv.2+2)+1)+1)) (some (.i .i64 fk))).bind fun _=>
 (PY [(.agg [(.p UO),(.i .i64 fm),(.i .i64 np),(.i .i64 qi),(.i .i64 eJ)]),(.agg [(.i .i64 n8),(.i .i64 eu),(.i .i64 eB)]),(.agg [(.i .i64 dU),(.i .i64 fq),(.i .i64 fk)])] gC.2).bind fun mK=>
 (AV.az 2 mK.1).bind fun Ig=>
 (AV.asAgg 3 (Ig.getD 0 .u)).bind fun Hr=>
 au Hr 0 fun lN=>
 au Hr 1 fun wg=>
 au Hr 2 fun nu=>
 au Ig 1 fun Hf=>
 Option.bind p0 fun oK=>
 (mK.2.st oK.1 (oK.2+5) [(.i .i64 lN),(.i .i64 wg),(.i .i64 nu)]).bind fun Pb=>
 Option.bind p0 fun RZ=>
 (Pb.st RZ.1 (RZ.2+2) [(.i .i64 0),(.i .i64 0),(.i .i64 0)]).bind fun zL=>
 Option.bind p0 fun q38=>
 (zL.st q38.1 (q38.2+9) [(.i .i64 0)]).bind fun h39=>
 some ((.aG []),h39)
 else none
def qnt:Sm O:=qns Ou qno
theorem qnu:ag Tryz.prog 52:=Tryz.call52
theorem qnv (gD PY:Sm O):run (O:=O) Tryz.prog [(100,gD),(101,PY)] Tryz.f52 (.n .z (.n (.d [] [0,1,3,4,5,6,7,8,9,10,2,11,12,13,14,15,16,17] [0,0,2,0,8,24,56,0,128,384,896,2046,4094,8190,8190,16383,49151,114687]) .z))=qns gD PY:=by kernel_rfl
theorem qnw:ah RO Tryz.prog 52 qnt:=bJ (qnv _ _) (ab qhn qhp <| ab qnp qnr <| aJ) Tryz.func52 (by kernel_rfl)
def qnx (jL Fu k51 oW k52:Sm O):Sm O:=fun xs h=>
 bif Nat.beq xs.length 1 then
 (AV.bH (xs.getD 0 .u)).bind fun p0=>
 Option.bind p0 fun q1=>
 cV h q1.1 q1.2 fun p3=>
 (jL [(.p p3)] h).bind fun r4=>
 (AV.bH r4.1).bind fun p5=>
 (Fu [(.p p5)] r4.2).bind fun r6=>
 (AV.aX .i64 r6.1).bind fun n7=>
 (k51 [(.p p5),(.i .i64 n7)] r6.2).bind fun r8=>
 (AV.aX .i64 r8.1).bind fun n9=>
 (bif ((n9:Int) != 0) then
 some ((.i .i64 n9),r8.2)
 else Option.bind p0 fun lO=>
 cV r8.2 lO.1 lO.2 fun Fg=>
 (oW [(.p Fg)] r8.2).bind fun fA=>
 (AV.bH fA.1).bind fun p14=>
 (k52 [(.p p14)] fA.2).bind fun iw=>
 (AV.az 0 iw.1).bind fun vo=>
 some ((.i .i64 0),iw.2))
 else none
def Zj:Sm O:=qnx xj Oa qnj BW qnt
theorem qnz:ag Tryz.prog 11:=Tryz.call11
theorem qn0 (jL Fu k51 oW k52:Sm O):run (O:=O) Tryz.prog [(23,jL),(24,Fu),(51,k51),(32,oW),(52,k52)] Tryz.f11 (.n .z (.n .z (.n (.n .z (.n .z (.n .z .z))) (.n .z .z))))=qnx jL Fu k51 oW k52:=by kernel_rfl
theorem qn1:ah RO Tryz.prog 11 Zj:=bJ (qn0 _ _ _ _ _) (ab RG RH <| ab qnf qnh <| ab qnk qnm <| ab Wr Ws <| ab qnu qnw <| aJ) Tryz.func11 (by kernel_rfl)
def qn2 (qo:Sm O):Sm O:=fun xs h=>
 bif Nat.beq xs.length 3 then
 (AV.bH (xs.getD 0 .u)).bind fun p0=>
 au xs 1 fun n1=>
 au xs 2 fun n2=>
 Option.bind p0 fun q3=>
 (h.ld q3.1 (q3.2+5)).bind fun w4=>
 (AV.aZ w4).bind fun b5=>
 (bif (!b5) then
 some ((.i .i64 4),h)
 else Option.bind p0 fun q6=>
 ai h q6.1 (q6.2+3) fun n8=>
 ai h q6.1 ((q6.2+3)+1) fun eu=>
 (qo [(.agg [(.i .i64 n8),(.i .i64 eu)]),(.i .i64 n1),(.i .i64 n2)] h).bind fun eM=>
 (AV.aZ eM.1).bind fun uQ=>
 (bif (!uQ) then
 some ((.i .i64 11),eM.2)
 else some ((.i .i64 0),eM.2)))
 else none
def V5:Sm O:=qn2 MC
theorem qn4:ag Tryz.prog 116:=Tryz.call116
theorem qn5 (qo:Sm O):run (O:=O) Tryz.prog [(143,qo)] Tryz.f116 (.n .z (.n (.n (.n .z (.n .z (.n .z (.n .z .z)))) .z) .z))=qn2 qo:=by kernel_rfl
theorem qn6:ah RO Tryz.prog 116 V5:=bJ (qn5 _) (ab qjv qjx <| aJ) Tryz.func116 (by kernel_rfl)
def qn7 (qq eX:Sm O):Sm O:=fun xs h=>
 bif Nat.beq xs.length 2 then
 (AV.bH (xs.getD 0 .u)).bind fun p0=>
 au xs 1 fun n1=>
 (qq [(.p p0),(.i .i64 n1),(.i .i64 1)] h).bind fun r2=>
 (AV.aX .i64 r2.1).bind fun n3=>
 (bif ((n3:Int) != 0) then
 some ((.aG [(.i .u64 0),(.i .i64 n3)]),r2.2)
 else Option.bind p0 fun q4=>
 cV r2.2 q4.1 q4.2 fun p6=>
 Option.bind p0 fun q7=>
 ai r2.2 q7.1 (q7.2+3) fun n9=>
 (eX [(.p p6),(.i .i64 n9),(.i .i64 n1)] r2.2).bind fun ee=>
 (AV.az 2 ee.1).bind fun tz=>
 cf tz 0 fun eB=>
 au tz 1 fun fE=>
 some ((.aG [(.i .u64 eB),(.i .i64 fE)]),ee.2))
 else none
def qn8:Sm O:=qn7 V5 yN
theorem qn9:ag Tryz.prog 62:=Tryz.call62
theorem qoa (qq eX:Sm O):run (O:=O) Tryz.prog [(116,qq),(117,eX)] Tryz.f62 (.n .z (.n (.n .z (.n .z (.n .z .z))) (.n (.d [] [0,1,2,3,4,5,6,7,8,9,10,11,12,13,14] [0,1,3,7,0,16,48,112,240,0,1023,2047,2047,8191,16383]) .z)))=qn7 qq eX:=by kernel_rfl
theorem qob:ah RO Tryz.prog 62 qn8:=bJ (qoa _ _) (ab qn4 qn6 <| ab UG UH <| aJ) Tryz.func62 (by kernel_rfl)
def qoc:Sm O:=fun xs h=>
 bif Nat.beq xs.length 0 then
 let h0:=h.ax 1
 let h1:=h0.put h.next (.cells true 195 [(.i .i64 0),(.i .i64 0)])
 (h1.st (.n h.next) 0 [(.i .i64 0),(.i .i64 40)]).bind fun h2=>
 ai h2 (.n h.next) 0 fun n4=>
 ai h2 (.n h.next) 1 fun n6=>
 some ((.agg [(.i .i64 n4),(.i .i64 n6)]),h2)
 else none
def qod:Sm O:=qoc
theorem qoe:ag Tryz.prog 118:=Tryz.call118
theorem qof:run (O:=O) Tryz.prog [] Tryz.f118 (.n .z .z)=qoc:=by kernel_rfl
theorem qog:ah RO Tryz.prog 118 qod:=bJ qof (aJ) Tryz.func118 (by kernel_rfl)
def qoh (sK:Sm O):Sm O:=fun xs h=>
 bif Nat.beq xs.length 1 then
 au xs 0 fun n0=>
 (sK [(.i .i64 n0),(.i .i64 4194303)] h).bind fun r1=>
 (AV.aZ r1.1).bind fun b2=>
 (bif (!b2) then
 some ((.aG [(.i .u64 0),(.i .i64 2)]),r1.2)
 else let v3:Int:=(bK .or .u64 9223372036854775808 (IntKind.u64.wrap n0))
 some ((.aG [(.i .u64 v3),(.i .i64 0)]),r1.2))
 else none
def TP:Sm O:=qoh VU
theorem qoj:ag Tryz.prog 104:=Tryz.call104
theorem qok (sK:Sm O):run (O:=O) Tryz.prog [(151,sK)] Tryz.f104 (.n .z (.n (.n .z (.n .z .z)) .z))=qoh sK:=by kernel_rfl
theorem qol:ah RO Tryz.prog 104 TP:=bJ (qok _) (ab qcp qcr <| aJ) Tryz.func104 (by kernel_rfl)
def qom (PZ vr zw:Sm O):Sm O:=fun xs h=>
 bif Nat.beq xs.length 1 then
 cf xs 0 fun n0=>
 (PZ [] h).bind fun r1=>
 (AV.asAgg 2 r1.1).bind fun c2=>
 au c2 0 fun n3=>
 au c2 1 fun n4=>
 (vr [(.i .u64 n0),(.agg [(.i .i64 n3),(.i .i64 n4)])] r1.2).bind fun r5=>
 (AV.aX .u64 r5.1).bind fun n6=>
 (zw [(.i .i64 (IntKind.i64.wrap n6))] r5.2).bind fun r7=>
 (AV.az 2 r7.1).bind fun c8=>
 cf c8 0 fun n9=>
 au c8 1 fun eu=>
 ((bif (((eu:Int) != 0) == false) then
 some ([(.b ((n9:Int) != n0))],r7.2)
 else some ([(.b true)],r7.2)):Option (List AV × AH O)).bind fun eM=>
 (AV.aZ (eM.1.getD 0 .u)).bind fun uQ=>
 (bif uQ then
 some ((.aG [(.i .i64 0),(.b false)]),eM.2)
 else some ((.aG [(.i .i64 (IntKind.i64.wrap n6)),(.b true)]),eM.2))
 else none
def V4:Sm O:=qom qod VT TP
theorem qoo:ag Tryz.prog 64:=Tryz.call64
theorem qop (PZ vr zw:Sm O):run (O:=O) Tryz.prog [(118,PZ),(111,vr),(104,zw)] Tryz.f64 (.n .z (.n .z (.n (.n .z (.n (.g [(2,3,[(22,.one .b)])]) (.n .z .z))) .z)))=qom PZ vr zw:=by kernel_rfl
theorem qoq:ah RO Tryz.prog 64 V4:=bJ (qop _ _ _) (ab qoe qog <| ab qlo qlq <| ab qoj qol <| aJ) Tryz.func64 (by kernel_rfl)
def Ro (kq kr:Sm O):Sm O:=fun xs h=>
 bif Nat.beq xs.length 6 then
 (AV.bH (xs.getD 0 .u)).bind fun p0=>
 au xs 1 fun n1=>
 au xs 2 fun n2=>
 au xs 3 fun n3=>
 au xs 4 fun n4=>
 au xs 5 fun n5=>
 (kq [(.p p0),(.i .i64 n1),(.i .i64 n2),(.i .i64 n5)] h).bind fun r6=>
 (AV.az 2 r6.1).bind fun c7=>
 cT c7 0 fun l8=>
 au c7 1 fun n9=>
 (kq [(.p p0),(.i .i64 n3),(.i .i64 n4),(.i .i64 n5)] r6.2).bind fun ee=>
 (AV.az 2 ee.1).bind fun tz=>
 cT tz 0 fun B5=>
 au tz 1 fun fE=>
 ((bif (((n9:Int) == 10) == false) then
 some ([(.b ((fE:Int) == 10))],ee.2)
 else some ([(.b true)],ee.2)):Option (List AV × AH O)).bind fun ej=>
 (AV.aZ (ej.1.getD 0 .u)).bind fun JR=>
 (bif JR then
 some ((.i .i64 10),ej.2)
 else ((bif (((n9:Int) != 0) == false) then
 some ([(.b ((fE:Int) != 0))],ej.2)
 else some ([(.b true)],ej.2)):Option (List AV × AH O)).bind fun gR=>
 (AV.aZ (gR.1.getD 0 .u)).bind fun Fh=>
 (bif Fh then
 some ((.i .i64 11),gR.2)
 else Option.bind p0 fun Ly=>
 cV gR.2 Ly.1 Ly.2 fun p20=>
 (kr [(.p p20),(.i .i64 0),(.i .i64 n5)] gR.2).bind fun zK=>
 (AV.az 0 zK.1).bind fun c22=>
 Option.bind p0 fun Lw=>
 cV zK.2 Lw.1 Lw.2 fun zQ=>
 (kr [(.p zQ),(.i .i64 1),(.i .i64 n5)] zK.2).bind fun nS=>
 (AV.az 0 nS.1).bind fun BC=>
 (bif Nat.beq (min l8.2 B5.2) 0 then
 some ((.i .i64 0),nS.2)
 else
 (nS.2.bU l8.1 (min l8.2 B5.2) 1).bind fun Hr=>
 (nS.2.zZ B5.1 Hr).bind fun G5=>
 some ((.i .i64 0),G5))))
 else none
def HQ:Sm O:=Ro Dv KL
theorem qot:ag Tryz.prog 150:=Tryz.call150
theorem qou (kq kr:Sm O):run (O:=O) Tryz.prog [(156,kq),(157,kr)] Tryz.f150 (.n .z (.n .z (.n .z (.n (.n (.n (.g [(2,2,[(39,.one .b)])]) (.n .z (.n (.g [(2,2,[(46,.one .b)])]) (.n .z .z)))) .z) (.n .z (.n .z (.n .z .z)))))))=Ro kq kr:=by kernel_rfl
theorem qov:ah RO Tryz.prog 150 HQ:=bJ (qou _ _) (ab qff qfh <| ab qfz qf1 <| aJ) Tryz.func150 (by kernel_rfl)
def qow (qq PD P0:Sm O):Sm O:=fun xs h=>
 bif Nat.beq xs.length 3 then
 (AV.bH (xs.getD 0 .u)).bind fun p0=>
 au xs 1 fun n1=>
 au xs 2 fun n2=>
 (qq [(.p p0),(.i .i64 n1),(.i .i64 n2)] h).bind fun r3=>
 (AV.aX .i64 r3.1).bind fun n4=>
 (bif ((n4:Int) != 0) then
 some ((.aG [(.i .i64 0),(.i .i64 n4)]),r3.2)
 else (PD [(.p p0),(.i .i64 n2)] r3.2).bind fun r5=>
 (AV.az 2 r5.1).bind fun c6=>
 au c6 0 fun n7=>
 au c6 1 fun n8=>
 (bif ((n8:Int) != 0) then
 some ((.aG [(.i .i64 0),(.i .i64 n8)]),r5.2)
 else Option.bind p0 fun q9=>
 cV r5.2 q9.1 q9.2 fun RU=>
 Option.bind p0 fun zj=>
 ai r5.2 zj.1 (zj.2+3) fun ig=>
 Option.bind p0 fun kW=>
 ai r5.2 kW.1 (kW.2+1) fun fq=>
 (P0 [(.p RU),(.i .i64 ig),(.i .i64 n1),(.i .i64 fq),(.i .i64 n7),(.i .i64 n2)] r5.2).bind fun jn=>
 (AV.aX .i64 jn.1).bind fun fk=>
 some ((.aG [(.i .i64 n7),(.i .i64 fk)]),jn.2)))
 else none
def qox:Sm O:=qow V5 Y9 HQ
theorem qoy:ag Tryz.prog 102:=Tryz.call102
theorem qoz (qq PD P0:Sm O):run (O:=O) Tryz.prog [(116,qq),(92,PD),(150,P0)] Tryz.f102 (.n .z (.n (.n .z (.n .z (.n .z .z))) (.n .z (.n (.n .z (.n .z .z)) (.n (.d [] [0,1,2,3,4,5,6,7,8,9,10,11,12,13,14,15,16,17,18,19,20] [0,0,2,6,14,0,32,96,224,480,0,0,2048,6144,14336,30720,0,0,262142,524287,1048575]) .z)))))=qow qq PD P0:=by kernel_rfl
theorem qo0:ah RO Tryz.prog 102 qox:=bJ (qoz _ _ _) (ab qn4 qn6 <| ab qjq qjs <| ab qot qov <| aJ) Tryz.func102 (by kernel_rfl)
def qo1 (sQ Fo:Sm O):Sm O:=fun xs h=>
 bif Nat.beq xs.length 1 then
 cf xs 0 fun n0=>
 let h1:=h.ax 1
 (sQ [(.i .u64 n0)] h1).bind fun r2=>
 (AV.az 2 r2.1).bind fun c3=>
 (AV.asAgg 5 (c3.getD 0 .u)).bind fun c4=>
 au c4 0 fun n5=>
 au c4 1 fun n6=>
 au c4 2 fun n7=>
 au c4 3 fun n8=>
 (AV.aZ (c4.getD 4 .u)).bind fun b9=>
 au c3 1 fun eu=>
 let hU:=r2.2.put h.next (.cells true 39 [(.i .i64 0),(.i .i64 0),(.i .i64 0),(.i .i64 0),(.b false)])
 (hU.st (.n h.next) 0 [(.i .i64 n5),(.i .i64 n6),(.i .i64 n7),(.i .i64 n8),(.b b9)]).bind fun mO=>
 (bif ((eu:Int) != 0) then
 some ((.aG [(.i .u64 0),(.i .i64 eu)]),mO)
 else ai mO (.n h.next) 3 fun ig=>
 let ZZ:Int:=(if 7<(IntKind.i64.wrap (ig+1)) then 7 else (IntKind.i64.wrap (ig+1)))
 (mO.st (.n h.next) 3 [(.i .i64 ZZ)]).bind fun sk=>
 ai sk (.n h.next) 0 fun iM=>
 ai sk (.n h.next) 1 fun jK=>
 ai sk (.n h.next) 2 fun gZ=>
 ai sk (.n h.next) 3 fun np=>
 (sk.ld (.n h.next) 4).bind fun w25=>
 (AV.aZ w25).bind fun b26=>
 (Fo [(.agg [(.i .i64 iM),(.i .i64 jK),(.i .i64 gZ),(.i .i64 np),(.b b26)])] sk).bind fun mK=>
 (AV.az 2 mK.1).bind fun Ig=>
 cf Ig 0 fun xO=>
 au Ig 1 fun lN=>
 some ((.aG [(.i .u64 xO),(.i .i64 lN)]),mK.2))
 else none
def Zd:Sm O:=qo1 MB VV
theorem qo3:ag Tryz.prog 103:=Tryz.call103
theorem qo4 (sQ Fo:Sm O):run (O:=O) Tryz.prog [(57,sQ),(87,Fo)] Tryz.f103 (.n .z (.n .z (.n (.n .z (.n .z .z)) (.n .z .z))))=qo1 sQ Fo:=by kernel_rfl
theorem qo5:ah RO Tryz.prog 103 Zd:=bJ (qo4 _ _) (ab qlu qlw <| ab qel qen <| aJ) Tryz.func103 (by kernel_rfl)
def qo6 (qq eN:Sm O):Sm O:=fun xs h=>
 bif Nat.beq xs.length 3 then
 (AV.bH (xs.getD 0 .u)).bind fun p0=>
 au xs 1 fun n1=>
 cf xs 2 fun n2=>
 (qq [(.p p0),(.i .i64 n1),(.i .i64 1)] h).bind fun r3=>
 (AV.aX .i64 r3.1).bind fun n4=>
 (bif ((n4:Int) != 0) then
 some ((.i .i64 n4),r3.2)
 else Option.bind p0 fun q5=>
 cV r3.2 q5.1 q5.2 fun p7=>
 Option.bind p0 fun q8=>
 ai r3.2 q8.1 (q8.2+3) fun eu=>
 (eN [(.p p7),(.i .i64 eu),(.i .i64 n1),(.i .u64 n2)] r3.2).bind fun eM=>
 (AV.aX .i64 eM.1).bind fun eB=>
 some ((.i .i64 eB),eM.2))
 else none
def qo7:Sm O:=qo6 V5 yO
theorem qo8:ag Tryz.prog 105:=Tryz.call105
theorem qo9 (qq eN:Sm O):run (O:=O) Tryz.prog [(116,qq),(141,eN)] Tryz.f105 (.n .z (.n (.n .z (.n .z (.n .z .z))) (.n (.d [] [0,1,2,3,4,5,6,7,8,9,10,11,12] [0,1,3,7,0,16,48,112,240,0,0,2047,4095]) .z)))=qo6 qq eN:=by kernel_rfl
theorem qpa:ah RO Tryz.prog 105 qo7:=bJ (qo9 _ _) (ab qn4 qn6 <| ab UE UF <| aJ) Tryz.func105 (by kernel_rfl)
def qpb:Sm O:=fun xs h=>
 bif Nat.beq xs.length 2 then
 (AV.asAgg 5 (xs.getD 0 .u)).bind fun c0=>
 au c0 0 fun n1=>
 au c0 1 fun n2=>
 au c0 2 fun n3=>
 au c0 3 fun n4=>
 (AV.aZ (c0.getD 4 .u)).bind fun b5=>
 let h6:=h.ax 1
 let h7:=h6.put h.next (.cells true 39 [(.i .i64 n1),(.i .i64 n2),(.i .i64 n3),(.i .i64 n4),(.b b5)])
 let h8:=h7.ax 2
 (AV.qz (xs.getD 1 .u)).bind fun q9=>
 aV h8 q9.1 q9.2 fun iS=>
 ai h8 (.n h.next) 0 fun fE=>
 ai h8 (.n h.next) 1 fun dU=>
 ai h8 (.n h.next) 2 fun fq=>
 ai h8 (.n h.next) 3 fun fk=>
 (h8.ld (.n h.next) 4).bind fun w20=>
 (AV.aZ w20).bind fun MM=>
 let DT:=h8.put h7.next (.cells true 39 [(.i .i64 fE),(.i .i64 dU),(.i .i64 fq),(.i .i64 fk),(.b MM)])
 (DT.bU (.loc (.n h7.next) 0 5) 1 5).bind fun abk=>
 (bif (Nat.ble ((iS.2+1)*41) 35184372088832) then
 (DT.cL (h7.next+1) 39 5 iS.1 iS.2 1 abk).bind fun kV=>
 (AV.eG kV.1).bind fun RC=>
 (AV.qz (xs.getD 1 .u)).bind fun RM=>
 (kV.2.st RM.1 RM.2 [(.sl RC.1 RC.2)]).bind fun zh=>
 some ((.aG []),zh)
 else none)
 else none
def qpc:Sm O:=qpb
theorem qpd:ag Tryz.prog 15:=Tryz.call15
theorem qpe:run (O:=O) Tryz.prog [] Tryz.f15 .z=qpb:=by kernel_rfl
theorem qpf:ah RO Tryz.prog 15 qpc:=bJ qpe (aJ) Tryz.func15 (by kernel_rfl)
def qpg (sQ R9 k15:Sm O):Sm O:=fun xs h=>
 bif Nat.beq xs.length 2 then
 (AV.bH (xs.getD 0 .u)).bind fun p0=>
 cf xs 1 fun n1=>
 let h2:=h.ax 1
 (sQ [(.i .u64 n1)] h2).bind fun r3=>
 (AV.az 2 r3.1).bind fun c4=>
 (AV.asAgg 5 (c4.getD 0 .u)).bind fun c5=>
 au c5 0 fun n6=>
 au c5 1 fun n7=>
 au c5 2 fun n8=>
 au c5 3 fun n9=>
 (AV.aZ (c5.getD 4 .u)).bind fun G8=>
 au c4 1 fun fc=>
 let mO:=r3.2.put h.next (.cells true 39 [(.i .i64 0),(.i .i64 0),(.i .i64 0),(.i .i64 0),(.b false)])
 (mO.st (.n h.next) 0 [(.i .i64 n6),(.i .i64 n7),(.i .i64 n8),(.i .i64 n9),(.b G8)]).bind fun lz=>
 Option.bind p0 fun qh=>
 ai lz qh.1 (qh.2+2) fun iy=>
 Option.bind p0 fun vn=>
 (lz.st vn.1 (vn.2+2) [(.i .i64 (IntKind.i64.wrap (iy+1)))]).bind fun tC=>
 Option.bind p0 fun Hb=>
 (tC.ld Hb.1 (Hb.2+1)).bind fun w20=>
 (AV.Vb w20).bind fun f21=>
 ai tC (.n h.next) 0 fun fm=>
 ai tC (.n h.next) 1 fun qi=>
 ai tC (.n h.next) 2 fun qy=>
 ai tC (.n h.next) 3 fun xO=>
 (tC.ld (.n h.next) 4).bind fun w30=>
 (AV.aZ w30).bind fun b31=>
 (D7 [(57,sQ),(50,R9),(15,k15)] f21 [(.agg [(.i .i64 fm),(.i .i64 qi),(.i .i64 qy),(.i .i64 xO),(.b b31)])] tC).bind fun UC=>
 (AV.az 0 UC.1).bind fun c33=>
 some ((.aG []),UC.2)
 else none
def Zh:Sm O:=qpg MB V6 qpc
theorem qpi:ag Tryz.prog 106:=Tryz.call106
theorem qpj (sQ R9 k15:Sm O):run (O:=O) Tryz.prog [(57,sQ),(50,R9),(15,k15)] Tryz.f106 (.n .z (.n .z (.d [] [0,1,2,3,4,5] [0,1,3,7,0,31])))=qpg sQ R9 k15:=by kernel_rfl
theorem qpk:ah RO Tryz.prog 106 Zh:=bJ (qpj _ _ _) (ab qlu qlw <| ab qm0 qm2 <| ab qpd qpf <| aJ) Tryz.func106 (by kernel_rfl)
def qpl (jL sP k62 k64 DS sQ xN P2 zx Fs zw P3 zy:Sm O):Sm O:=fun xs h=>
 bif Nat.beq xs.length 2 then
 (AV.bH (xs.getD 0 .u)).bind fun p0=>
 cf xs 1 fun n1=>
 Option.bind p0 fun q2=>
 cV h q2.1 q2.2 fun p4=>
 (jL [(.p p4)] h).bind fun r5=>
 (AV.bH r5.1).bind fun p6=>
 (sP [(.i .u64 n1)] r5.2).bind fun r7=>
 (AV.aX .i64 r7.1).bind fun n8=>
 (k62 [(.p p6),(.i .i64 n8)] r7.2).bind fun r9=>
 (AV.az 2 r9.1).bind fun ML=>
 cf ML 0 fun fc=>
 au ML 1 fun eB=>
 (bif ((eB:Int) != 0) then
 some ((.i .u64 n1),r9.2)
 else (k64 [(.i .u64 fc)] r9.2).bind fun fA=>
 (AV.az 2 fA.1).bind fun Cb=>
 au Cb 0 fun dU=>
 (AV.aZ (Cb.getD 1 .u)).bind fun Yu=>
 (bif Yu then
 (DS [(.i .i64 dU)] fA.2).bind fun fP=>
 (AV.az 2 fP.1).bind fun LX=>
 cf LX 0 fun fk=>
 au LX 1 fun jK=>
 some ((.i .u64 fk),fP.2)
 else let He:=fA.2.ax 1
 (sQ [(.i .u64 fc)] He).bind fun fV=>
 (AV.az 2 fV.1).bind fun RN=>
 (AV.asAgg 5 (RN.getD 0 .u)).bind fun Fv=>
 au Fv 0 fun qi=>
 au Fv 1 fun eJ=>
 au Fv 2 fun qy=>
 au Fv 3 fun nq=>
 (AV.aZ (Fv.getD 4 .u)).bind fun UN=>
 au RN 1 fun lN=>
 let Fe:=fV.2.put fA.2.next (.cells true 39 [(.i .i64 0),(.i .i64 0),(.i .i64 0),(.i .i64 0),(.b false)])
 (Fe.st (.n fA.2.next) 0 [(.i .i64 qi),(.i .i64 eJ),(.i .i64 qy),(.i .i64 nq),(.b UN)]).bind fun Cg=>
 (bif ((lN:Int) != 0) then
 some ((.i .u64 n1),Cg)
 else ai Cg (.n fA.2.next) 0 fun sL=>
 ai Cg (.n fA.2.next) 1 fun qd=>
 ai Cg (.n fA.2.next) 2 fun Lh=>
 ai Cg (.n fA.2.next) 3 fun Li=>
 (Cg.ld (.n fA.2.next) 4).bind fun w41=>
 (AV.aZ w41).bind fun b42=>
 (sP [(.i .u64 n1)] Cg).bind fun zR=>
 (AV.aX .i64 zR.1).bind fun MT=>
 (aO (zR.2.ld (.n fA.2.next) 0) (some (.i .i64 sL))).bind fun _=>
 (aO (zR.2.ld (.n fA.2.next) 1) (some (.i .i64 qd))).bind fun _=>
 (aO (zR.2.ld (.n fA.2.next) 2) (some (.i .i64 Lh))).bind fun _=>
 (aO (zR.2.ld (.n fA.2.next) 3) (some (.i .i64 Li))).bind fun _=>
 (aO (zR.2.ld (.n fA.2.next) 4) (some (.b b42))).bind fun _=>
 (xN [(.agg [(.i .i64 sL),(.i .i64 qd),(.i .i64 Lh),(.i .i64 Li),(.b b42)])] zR.2).bind fun LY=>
 (AV.aX .i64 LY.1).bind fun G6=>
 (P2 [(.p p6),(.i .i64 MT),(.i .i64 G6)] LY.2).bind fun HZ=>
 (AV.az 2 HZ.1).bind fun c48=>
 au c48 0 fun sn=>
 au c48 1 fun zb=>
 (bif ((zb:Int) != 0) then
 some ((.i .u64 n1),HZ.2)
 else (zx [(.i .u64 fc)] HZ.2).bind fun r51=>
 (AV.az 2 r51.1).bind fun c52=>
 cf c52 0 fun MQ=>
 au c52 1 fun zO=>
 (Fs [(.p p6),(.i .i64 sn),(.i .u64 MQ)] r51.2).bind fun r55=>
 (AV.aX .i64 r55.1).bind fun BD=>
 (zw [(.i .i64 sn)] r55.2).bind fun WB=>
 (AV.az 2 WB.1).bind fun c58=>
 cf c58 0 fun DR=>
 au c58 1 fun B9=>
 (sP [(.i .u64 n1)] WB.2).bind fun qj=>
 (AV.aX .i64 qj.1).bind fun LB=>
 (P3 [(.p p6),(.i .i64 LB),(.i .u64 DR)] qj.2).bind fun LH=>
 (AV.aX .i64 LH.1).bind fun Ba=>
 (zy [(.p p0),(.i .u64 MQ)] LH.2).bind fun wo=>
 (AV.az 0 wo.1).bind fun WH=>
 (DS [(.i .i64 sn)] wo.2).bind fun Ih=>
 (AV.az 2 Ih.1).bind fun c68=>
 cf c68 0 fun PO=>
 au c68 1 fun RY=>
 some ((.i .u64 PO),Ih.2)))))
 else none
def V8:Sm O:=qpl xj OC qn8 V4 V3 MB TN qox Zd V0 TP qo7 Zh
theorem qpn:ag Tryz.prog 54:=Tryz.call54
theorem qpo (jL sP k62 k64 DS sQ xN P2 zx Fs zw P3 zy:Sm O):run (O:=O) Tryz.prog [(23,jL),(63,sP),(62,k62),(64,k64),(65,DS),(57,sQ),(89,xN),(102,P2),(103,zx),(93,Fs),(104,zw),(105,P3),(106,zy)] Tryz.f54 (.n .z (.n .z (.n .z (.n (.n .z (.n .z .z)) (.n (.n .z (.n .z (.n (.n .z .z) .z))) (.n .z (.n (.n .z (.n .z .z)) (.n (.d [] [0,1,3,2,4,5,6,7,8,9,10] [0,0,2,0,14,31,63,127,127,255,1023]) (.n (.n .z (.n .z .z)) (.n .z (.n .z (.n .z (.n .z (.n .z (.n .z .z)))))))))))))))=qpl jL sP k62 k64 DS sQ xN P2 zx Fs zw P3 zy:=by kernel_rfl
theorem qpp:ah RO Tryz.prog 54 V8:=bJ (qpo _ _ _ _ _ _ _ _ _ _ _ _ _) (ab RG RH <| ab qk4 qk6 <| ab qn9 qob <| ab qoo qoq <| ab qj5 qj7 <| ab qlu qlw <| ab qc4 qc6 <| ab qoy qo0 <| ab qo3 qo5 <| ab qj0 qj2 <| ab qoj qol <| ab qo8 qpa <| ab qpi qpk <| aJ) Tryz.func54 (by kernel_rfl)
def qpq (js:Sm O):Sm O:=fun xs h=>
 bif Nat.beq xs.length 2 then
 (AV.bH (xs.getD 0 .u)).bind fun p0=>
 au xs 1 fun n1=>
 Option.bind p0 fun q2=>
 cV h q2.1 (q2.2+1) fun p4=>
 (js [(.p p4),(.i .i64 n1),(.i .i64 4)] h).bind fun r5=>
 (AV.az 2 r5.1).bind fun c6=>
 cf c6 0 fun n7=>
 au c6 1 fun n8=>
 ((bif (((n8:Int) == 0) == true) then
 Option.bind p0 fun q9=>
 cQ r5.2 q9.1 (q9.2+8) fun fc=>
 some ([(.b ((n7:Int) == fc))],r5.2)
 else some ([(.b false)],r5.2)):Option (List AV × AH O)).bind fun ij=>
 (AV.aZ (ij.1.getD 0 .u)).bind fun Pt=>
 some ((.aG [(.b Pt),(.i .i64 n8)]),ij.2)
 else none
def qpr:Sm O:=qpq Q5
theorem qps:ag Tryz.prog 66:=Tryz.call66
theorem qpt (js:Sm O):run (O:=O) Tryz.prog [(119,js)] Tryz.f66 (.n .z (.n .z (.n (.g [(2,6,[(26,.one .b)])]) .z)))=qpq js:=by kernel_rfl
theorem qpu:ah RO Tryz.prog 66 qpr:=bJ (qpt _) (ab qi1 qi3 <| aJ) Tryz.func66 (by kernel_rfl)
def qpv (zm eX:Sm O):Sm O:=fun xs h=>
 bif Nat.beq xs.length 3 then
 (AV.asAgg 5 (xs.getD 0 .u)).bind fun c0=>
 (AV.bH (c0.getD 0 .u)).bind fun p1=>
 au c0 1 fun n2=>
 au c0 2 fun n3=>
 au c0 3 fun n4=>
 au c0 4 fun n5=>
 au xs 1 fun n6=>
 au xs 2 fun n7=>
 let h8:=h.ax 1
 let h9:=h8.put h.next (.cells true 184 [(.p p1),(.i .i64 n2),(.i .i64 n3),(.i .i64 n4),(.i .i64 n5)])
 cV h9 (.n h.next) 0 fun RU=>
 ai h9 (.n h.next) 1 fun fE=>
 cV h9 (.n h.next) 0 fun LC=>
 ai h9 (.n h.next) 1 fun fq=>
 ai h9 (.n h.next) 2 fun fk=>
 ai h9 (.n h.next) 3 fun nR=>
 ai h9 (.n h.next) 4 fun fm=>
 (zm [(.agg [(.p LC),(.i .i64 fq),(.i .i64 fk),(.i .i64 nR),(.i .i64 fm)]),(.i .i64 n6),(.i .i64 n7)] h9).bind fun kV=>
 (AV.aX .i64 kV.1).bind fun qi=>
 (aO (kV.2.ld (.n h.next) 0) (some (.p RU))).bind fun _=>
 (aO (kV.2.ld (.n h.next) 1) (some (.i .i64 fE))).bind fun _=>
 (eX [(.p RU),(.i .i64 fE),(.i .i64 qi)] kV.2).bind fun nS=>
 (AV.az 2 nS.1).bind fun BC=>
 cf BC 0 fun nq=>
 au BC 1 fun xO=>
 some ((.i .i64 (IntKind.i64.wrap nq)),nS.2)
 else none
def YJ:Sm O:=qpv YI yN
theorem qpx:ag Tryz.prog 166:=Tryz.call166
theorem qpy (zm eX:Sm O):run (O:=O) Tryz.prog [(178,zm),(117,eX)] Tryz.f166 (.n .z (.n (.d [] [0,1,2,3,4,5,6,7,8,9,10,11,12,13] [0,1,0,4,0,0,0,112,255,511,1023,1023,2047,8191]) .z))=qpv zm eX:=by kernel_rfl
theorem qpz:ah RO Tryz.prog 166 YJ:=bJ (qpy _ _) (ab qih qij <| ab UG UH <| aJ) Tryz.func166 (by kernel_rfl)
def qp0 (qm wq lM:Sm O):Sm O:=fun xs h=>
 bif Nat.beq xs.length 3 then
 (AV.asAgg 5 (xs.getD 0 .u)).bind fun c0=>
 (AV.bH (c0.getD 0 .u)).bind fun p1=>
 au c0 1 fun n2=>
 au c0 2 fun n3=>
 au c0 3 fun n4=>
 au c0 4 fun n5=>
 (AV.asAgg 3 (xs.getD 1 .u)).bind fun c6=>
 au c6 0 fun n7=>
 au c6 1 fun n8=>
 au c6 2 fun n9=>
 au xs 2 fun eu=>
 let hU:=h.ax 3
 let mO:=hU.put h.next (.cells true 184 [(.p p1),(.i .i64 n2),(.i .i64 n3),(.i .i64 n4),(.i .i64 n5)])
 let lz:=mO.put (h.next+1) (.cells true 155 [(.i .i64 n7),(.i .i64 n8),(.i .i64 n9)])
 let nC:=lz.put ((h.next+1)+1) (.cells true 155 [(.i .i64 0),(.i .i64 0),(.i .i64 0)])
 cV nC (.n h.next) 0 fun xP=>
 ai nC (.n h.next) 1 fun iM=>
 ai nC (.n h.next) 2 fun jK=>
 ai nC (.n h.next) 3 fun gZ=>
 ai nC (.n h.next) 4 fun np=>
 (qm [(.agg [(.p xP),(.i .i64 iM),(.i .i64 jK),(.i .i64 gZ),(.i .i64 np)]),(.i .i64 eu)] nC).bind fun ft=>
 (AV.aX .i64 ft.1).bind fun eJ=>
 (bif ((eJ:Int) != 0) then
 ai ft.2 (.n (h.next+1)) 0 fun nq=>
 ai ft.2 (.n (h.next+1)) 1 fun lN=>
 ai ft.2 (.n (h.next+1)) 2 fun nu=>
 (ft.2.st (.n ((h.next+1)+1)) 0 [(.i .i64 nq),(.i .i64 lN),(.i .i64 nu)]).bind fun sM=>
 ai sM (.n ((h.next+1)+1)) 0 fun zn=>
 ai sM (.n ((h.next+1)+1)) 1 fun B7=>
 ai sM (.n ((h.next+1)+1)) 2 fun vk=>
 some ((.aG [(.agg [(.i .i64 zn),(.i .i64 B7),(.i .i64 vk)]),(.i .i64 eJ)]),sM)
 else cV ft.2 (.n h.next) 0 fun Ww=>
 ai ft.2 (.n h.next) 1 fun vC=>
 ai ft.2 (.n h.next) 2 fun tB=>
 ai ft.2 (.n h.next) 3 fun Hg=>
 ai ft.2 (.n h.next) 4 fun sn=>
 ai ft.2 (.n h.next) 3 fun Fj=>
 cV ft.2 (.n h.next) 0 fun p53=>
 ai ft.2 (.n h.next) 1 fun Pc=>
 ai ft.2 (.n h.next) 2 fun G0=>
 ai ft.2 (.n h.next) 3 fun DR=>
 ai ft.2 (.n h.next) 4 fun MJ=>
 ai ft.2 (.n h.next) 4 fun RR=>
 (wq [(.agg [(.p Ww),(.i .i64 vC),(.i .i64 tB),(.i .i64 Hg),(.i .i64 sn)]),(.i .i64 eu),(.i .i64 Fj)] ft.2).bind fun xT=>
 (AV.aX .i64 xT.1).bind fun H'=>
 (aO (xT.2.ld (.n h.next) 0) (some (.p p53))).bind fun _=>
 (aO (xT.2.ld (.n h.next) 1) (some (.i .i64 Pc))).bind fun _=>
 (aO (xT.2.ld (.n h.next) 2) (some (.i .i64 G0))).bind fun _=>
 (aO (xT.2.ld (.n h.next) 3) (some (.i .i64 DR))).bind fun _=>
 (aO (xT.2.ld (.n h.next) 4) (some (.i .i64 MJ))).bind fun _=>
 (aO (xT.2.ld (.n h.next) 4) (some (.i .i64 RR))).bind fun _=>
 (wq [(.agg [(.p p53),(.i .i64 Pc),(.i .i64 G0),(.i .i64 DR),(.i .i64 MJ)]),(.i .i64 eu),(.i .i64 RR)] xT.2).bind fun zJ=>
 (AV.aX .i64 zJ.1).bind fun Ia=>
 ((bif ((Ia:Int) != 0) then
 cV zJ.2 (.n h.next) 0 fun p69=>
 ai zJ.2 (.n h.next) 1 fun H3=>
 ai zJ.2 (.n h.next) 2 fun UL=>
 ai zJ.2 (.n h.next) 3 fun RP=>
 ai zJ.2 (.n h.next) 4 fun Cc=>
 ai zJ.2 (.n h.next) 3 fun PQ=>
 (lM [(.agg [(.p p69),(.i .i64 H3),(.i .i64 UL),(.i .i64 RP),(.i .i64 Cc)]),(.i .i64 Ia),(.i .i64 PQ),(.i .i64 H')] zJ.2).bind fun Ic=>
 (AV.az 0 Ic.1).bind fun U0=>
 some ([],Ic.2)
 else (zJ.2.st (.n (h.next+1)) 0 [(.i .i64 H')]).bind fun HX=>
 some ([],HX)):Option (List AV × AH O)).bind fun Sa=>
 ((bif ((H':Int) != 0) then
 cV Sa.2 (.n h.next) 0 fun p85=>
 ai Sa.2 (.n h.next) 1 fun LI=>
 ai Sa.2 (.n h.next) 2 fun n89=>
 ai Sa.2 (.n h.next) 3 fun n91=>
 ai Sa.2 (.n h.next) 4 fun US=>
 ai Sa.2 (.n h.next) 4 fun n95=>
 (lM [(.agg [(.p p85),(.i .i64 LI),(.i .i64 n89),(.i .i64 n91),(.i .i64 US)]),(.i .i64 H'),(.i .i64 n95),(.i .i64 Ia)] Sa.2).bind fun r96=>
 (AV.az 0 r96.1).bind fun c97=>
 some ([],r96.2)
 else (Sa.2.st (.n (h.next+1)) 1 [(.i .i64 Ia)]).bind fun h98=>
 some ([],h98)):Option (List AV × AH O)).bind fun WI=>
 ai WI.2 (.n (h.next+1)) 2 fun zp=>
 (WI.2.st (.n (h.next+1)) 2 [(.i .i64 (IntKind.i64.wrap (zp - 1)))]).bind fun Bx=>
 ai Bx (.n (h.next+1)) 0 fun LV=>
 ai Bx (.n (h.next+1)) 1 fun sR=>
 ai Bx (.n (h.next+1)) 2 fun Hp=>
 (Bx.st (.n ((h.next+1)+1)) 0 [(.i .i64 LV),(.i .i64 sR),(.i .i64 Hp)]).bind fun wm=>
 ai wm (.n ((h.next+1)+1)) 0 fun sN=>
 ai wm (.n ((h.next+1)+1)) 1 fun BH=>
 ai wm (.n ((h.next+1)+1)) 2 fun LL=>
 some ((.aG [(.agg [(.i .i64 sN),(.i .i64 BH),(.i .i64 LL)]),(.i .i64 0)]),wm))
 else none
def qp1:Sm O:=qp0 VP YJ VQ
theorem qp2:ag Tryz.prog 152:=Tryz.call152
theorem qp3 (qm wq lM:Sm O):run (O:=O) Tryz.prog [(165,qm),(166,wq),(149,lM)] Tryz.f152 (.n .z (.n (.n .z (.n .z (.n .z .z))) (.n (.d [] [0,1,2,3,5,6,7,8,4,9,10,11] [0,0,0,4,15,0,0,0,128,511,1023,2047]) (.n (.n .z (.j false [] .z .z)) (.n (.n .z (.j false [] .z .z)) (.n .z .z))))))=qp0 qm wq lM:=by kernel_rfl
theorem qp4:ah RO Tryz.prog 152 qp1:=bJ (qp3 _ _ _) (ab qic qie <| ab qpx qpz <| ab qim qio <| aJ) Tryz.func152 (by kernel_rfl)
def qp5 (k66 gD P4 zr vp:Sm O):Sm O:=fun xs h=>
 bif Nat.beq xs.length 2 then
 (AV.bH (xs.getD 0 .u)).bind fun p0=>
 au xs 1 fun n1=>
 (k66 [(.p p0),(.i .i64 n1)] h).bind fun r2=>
 (AV.az 2 r2.1).bind fun c3=>
 (AV.aZ (c3.getD 0 .u)).bind fun b4=>
 au c3 1 fun n5=>
 ((bif (b4 == false) then
 some ([(.b ((n5:Int) != 0))],r2.2)
 else some ([(.b true)],r2.2)):Option (List AV × AH O)).bind fun r6=>
 (AV.aZ (r6.1.getD 0 .u)).bind fun b7=>
 (bif b7 then
 some ((.aG [(.b false),(.i .i64 n5)]),r6.2)
 else Option.bind p0 fun q8=>
 ai r6.2 q8.1 (q8.2+5) fun eu=>
 ai r6.2 q8.1 ((q8.2+5)+1) fun eB=>
 ai r6.2 q8.1 (((q8.2+5)+1)+1) fun ig=>
 (gD [(.p p0)] r6.2).bind fun iw=>
 (AV.asAgg 5 iw.1).bind fun vo=>
 (AV.bH (vo.getD 0 .u)).bind fun p17=>
 au vo 1 fun iM=>
 au vo 2 fun fk=>
 au vo 3 fun jK=>
 au vo 4 fun nR=>
 (aO (iw.2.ld q8.1 (q8.2+5)) (some (.i .i64 eu))).bind fun _=>
 (aO (iw.2.ld q8.1 ((q8.2+5)+1)) (some (.i .i64 eB))).bind fun _=>
 (aO (iw.2.ld q8.1 (((q8.2+5)+1)+1)) (some (.i .i64 ig))).bind fun _=>
 (P4 [(.agg [(.p p17),(.i .i64 iM),(.i .i64 fk),(.i .i64 jK),(.i .i64 nR)]),(.agg [(.i .i64 eu),(.i .i64 eB),(.i .i64 ig)]),(.i .i64 n1)] iw.2).bind fun fV=>
 (AV.az 2 fV.1).bind fun RN=>
 (AV.asAgg 3 (RN.getD 0 .u)).bind fun Fv=>
 au Fv 0 fun qi=>
 au Fv 1 fun eJ=>
 au Fv 2 fun qy=>
 au RN 1 fun nq=>
 Option.bind p0 fun MO=>
 (fV.2.st MO.1 (MO.2+5) [(.i .i64 qi),(.i .i64 eJ),(.i .i64 qy)]).bind fun G5=>
 Option.bind p0 fun zN=>
 ai G5 zN.1 (zN.2+2) fun Hf=>
 ai G5 zN.1 ((zN.2+2)+1) fun zn=>
 ai G5 zN.1 (((zN.2+2)+1)+1) fun B7=>
 (gD [(.p p0)] G5).bind fun MX=>
 (AV.asAgg 5 MX.1).bind fun c39=>
 (AV.bH (c39.getD 0 .u)).bind fun p40=>
 au c39 1 fun Hi=>
 au c39 2 fun Ff=>
 au c39 3 fun vC=>
 au c39 4 fun MT=>
 (aO (MX.2.ld zN.1 (zN.2+2)) (some (.i .i64 Hf))).bind fun _=>
 (aO (MX.2.ld zN.1 ((zN.2+2)+1)) (some (.i .i64 zn))).bind fun _=>
 (aO (MX.2.ld zN.1 (((zN.2+2)+1)+1)) (some (.i .i64 B7))).bind fun _=>
 (zr [(.agg [(.p p40),(.i .i64 Hi),(.i .i64 Ff),(.i .i64 vC),(.i .i64 MT)]),(.agg [(.i .i64 Hf),(.i .i64 zn),(.i .i64 B7)]),(.i .i64 n1)] MX.2).bind fun LY=>
 (AV.az 2 LY.1).bind fun c46=>
 (AV.asAgg 3 (c46.getD 0 .u)).bind fun Hj=>
 au Hj 0 fun DN=>
 au Hj 1 fun sn=>
 au Hj 2 fun zb=>
 au c46 1 fun Fj=>
 Option.bind p0 fun q52=>
 (LY.2.st q52.1 (q52.2+2) [(.i .i64 DN),(.i .i64 sn),(.i .i64 zb)]).bind fun h53=>
 Option.bind p0 fun q54=>
 cV h53 q54.1 (q54.2+1) fun p56=>
 Option.bind p0 fun q57=>
 cQ h53 q57.1 (q57.2+8) fun DR=>
 (vp [(.p p56),(.i .i64 n1),(.i .i64 4),(.i .u64 DR)] h53).bind fun r60=>
 (AV.aX .i64 r60.1).bind fun MJ=>
 some ((.aG [(.b true),(.i .i64 MJ)]),r60.2))
 else none
def VW:Sm O:=qp5 qpr Ou qp1 YK YH
theorem qp7:ag Tryz.prog 107:=Tryz.call107
theorem qp8 (k66 gD P4 zr vp:Sm O):run (O:=O) Tryz.prog [(66,k66),(100,gD),(152,P4),(132,zr),(130,vp)] Tryz.f107 (.n .z (.n .z (.n (.n (.g [(1,2,[(18,.one .b)])]) (.n .z .z)) (.n (.d [] [0,1,3,4,5,6,7,2,8,9,10,11,12,13,14] [0,0,2,0,8,24,56,0,254,510,1022,1022,2047,6143,14335]) (.n (.d [] [0,1,3,4,5,6,7,2,8,9,10,11,12,13,14] [0,0,2,0,8,24,56,0,254,510,1022,1022,2047,6143,14335]) (.n (.d [] [0,1,2,3,4,5,6,7,8,9,10,11] [0,1,3,7,0,0,32,96,224,511,1023,2047]) .z))))))=qp5 k66 gD P4 zr vp:=by kernel_rfl
theorem qp9:ah RO Tryz.prog 107 VW:=bJ (qp8 _ _ _ _ _) (ab qps qpu <| ab qhn qhp <| ab qp2 qp4 <| ab qir qit <| ab qhd qhf <| aJ) Tryz.func107 (by kernel_rfl)
def qqa (oW sP P5 zt zx Fq zy:Sm O):Sm O:=fun xs h=>
 bif Nat.beq xs.length 2 then
 (AV.bH (xs.getD 0 .u)).bind fun p0=>
 cf xs 1 fun n1=>
 Option.bind p0 fun q2=>
 cV h q2.1 q2.2 fun p4=>
 (oW [(.p p4)] h).bind fun r5=>
 (AV.bH r5.1).bind fun p6=>
 (sP [(.i .u64 n1)] r5.2).bind fun r7=>
 (AV.aX .i64 r7.1).bind fun n8=>
 (P5 [(.p p6),(.i .i64 n8)] r7.2).bind fun r9=>
 (AV.az 2 r9.1).bind fun ML=>
 (AV.aZ (ML.getD 0 .u)).bind fun Lx=>
 au ML 1 fun eB=>
 (bif (!Lx) then
 some ((.aG []),r9.2)
 else (sP [(.i .u64 n1)] r9.2).bind fun fA=>
 (AV.aX .i64 fA.1).bind fun ig=>
 (zt [(.p p6),(.i .i64 ig),(.i .i64 0)] fA.2).bind fun iw=>
 (AV.az 2 iw.1).bind fun vo=>
 cf vo 0 fun fq=>
 au vo 1 fun iM=>
 (zx [(.i .u64 fq)] iw.2).bind fun gY=>
 (AV.az 2 gY.1).bind fun Fi=>
 cf Fi 0 fun nR=>
 au Fi 1 fun gZ=>
 (bif ((gZ:Int) != 0) then
 some ((.aG []),gY.2)
 else (sP [(.i .u64 n1)] gY.2).bind fun v9=>
 (AV.aX .i64 v9.1).bind fun np=>
 (Fq [(.p p6),(.i .i64 np),(.i .i64 0),(.i .u64 nR)] v9.2).bind fun ft=>
 (AV.aX .i64 ft.1).bind fun eJ=>
 (zy [(.p p0),(.i .u64 nR)] ft.2).bind fun mK=>
 (AV.az 0 mK.1).bind fun Ig=>
 some ((.aG []),mK.2)))
 else none
def V9:Sm O:=qqa BW OC VW Zc Zd Re Zh
theorem qqc:ag Tryz.prog 55:=Tryz.call55
theorem qqd (oW sP P5 zt zx Fq zy:Sm O):run (O:=O) Tryz.prog [(32,oW),(63,sP),(107,P5),(108,zt),(103,zx),(90,Fq),(106,zy)] Tryz.f55 (.n .z (.n (.n .z (.n .z .z)) (.n .z (.n .z (.n (.n .z .z) .z)))))=qqa oW sP P5 zt zx Fq zy:=by kernel_rfl
theorem qqe:ah RO Tryz.prog 55 V9:=bJ (qqd _ _ _ _ _ _ _) (ab Wr Ws <| ab qk4 qk6 <| ab qp7 qp9 <| ab qle qlg <| ab qo3 qo5 <| ab qi6 qi8 <| ab qpi qpk <| aJ) Tryz.func55 (by kernel_rfl)
def Wa (qp k54 k55:Sm O):Sm O:=fun xs h=>
 bif Nat.beq xs.length 2 then
 (AV.bH (xs.getD 0 .u)).bind fun p0=>
 cf xs 1 fun n1=>
 (qp [(.i .u64 n1)] h).bind fun r2=>
 (AV.aX .i64 r2.1).bind fun n3=>
 (bif ((n3:Int) == 1) then
 (k54 [(.p p0),(.i .u64 n1)] r2.2).bind fun r4=>
 (AV.aX .u64 r4.1).bind fun n5=>
 some ((.i .u64 n5),r4.2)
 else ((bif ((n3:Int) == 2) then
 (k55 [(.p p0),(.i .u64 n1)] r2.2).bind fun r6=>
 (AV.az 0 r6.1).bind fun c7=>
 some ([],r6.2)
 else some ([],r2.2)):Option (List AV × AH O)).bind fun r8=>
 some ((.i .u64 n1),r8.2))
 else none
def zG:Sm O:=Wa De V8 V9
theorem qqh:ag Tryz.prog 12:=Tryz.call12
theorem qqi (qp k54 k55:Sm O):run (O:=O) Tryz.prog [(53,qp),(54,k54),(55,k55)] Tryz.f12 (.n .z (.n (.n .z (.n (.n .z (.n .z (.n .z (.j false [] .z .z)))) .z)) .z))=Wa qp k54 k55:=by kernel_rfl
theorem qqj:ah RO Tryz.prog 12 zG:=bJ (qqi _ _ _) (ab Wy Wz <| ab qpn qpp <| ab qqc qqe <| aJ) Tryz.func12 (by kernel_rfl)
def qqk:Sm O:=fun xs h=>
 bif Nat.beq xs.length 1 then
 (AV.asAgg 5 (xs.getD 0 .u)).bind fun c0=>
 au c0 0 fun n1=>
 au c0 1 fun n2=>
 au c0 2 fun n3=>
 au c0 3 fun n4=>
 (AV.aZ (c0.getD 4 .u)).bind fun b5=>
 let h6:=h.ax 2
 let h7:=h6.put h.next (.cells true 39 [(.i .i64 n1),(.i .i64 n2),(.i .i64 n3),(.i .i64 n4),(.b b5)])
 let h8:=h7.put (h.next+1) (.cells true 39 [(.i .i64 0),(.i .i64 0),(.i .i64 0),(.i .i64 0),(.b false)])
 ai h8 (.n h.next) 3 fun eu=>
 ((bif (decide (eu<7)) then
 ai h8 (.n h.next) 3 fun eB=>
 (h8.st (.n h.next) 3 [(.i .i64 (IntKind.i64.wrap (eB+1)))]).bind fun lz=>
 some ([],lz)
 else some ([],h8)):Option (List AV × AH O)).bind fun ej=>
 ai ej.2 (.n h.next) 0 fun iy=>
 ai ej.2 (.n h.next) 1 fun iM=>
 ai ej.2 (.n h.next) 2 fun jK=>
 ai ej.2 (.n h.next) 3 fun gZ=>
 (ej.2.ld (.n h.next) 4).bind fun w23=>
 (AV.aZ w23).bind fun b24=>
 (ej.2.st (.n (h.next+1)) 0 [(.i .i64 iy),(.i .i64 iM),(.i .i64 jK),(.i .i64 gZ),(.b b24)]).bind fun DL=>
 ai DL (.n (h.next+1)) 0 fun qy=>
 ai DL (.n (h.next+1)) 1 fun xO=>
 ai DL (.n (h.next+1)) 2 fun wg=>
 ai DL (.n (h.next+1)) 3 fun Hf=>
 (DL.ld (.n (h.next+1)) 4).bind fun w34=>
 (AV.aZ w34).bind fun b35=>
 some ((.agg [(.i .i64 qy),(.i .i64 xO),(.i .i64 wg),(.i .i64 Hf),(.b b35)]),DL)
 else none
def Mt:Sm O:=qqk
theorem qqm:ag Tryz.prog 14:=Tryz.call14
theorem qqn:run (O:=O) Tryz.prog [] Tryz.f14 (.n .z (.n (.n .z (.j false [] .z .z)) .z))=qqk:=by kernel_rfl
theorem qqo:ah RO Tryz.prog 14 Mt:=bJ qqn (aJ) Tryz.func14 (by kernel_rfl)
def qqp:Sm O:=fun xs h=>
 bif Nat.beq xs.length 2 then
 (AV.bH (xs.getD 0 .u)).bind fun p0=>
 au xs 1 fun n1=>
 let h2:=h.ax 1
 let h3:=h2.put h.next (.cells true 51 [(.i .u64 0),(.i .u64 0)])
 ((bif ((Option.isNone p0) == false) then
 some ([(.b (decide (n1<0)))],h3)
 else some ([(.b true)],h3)):Option (List AV × AH O)).bind fun r4=>
 (AV.aZ (r4.1.getD 0 .u)).bind fun b5=>
 ((bif (b5 == false) then
 some ([(.b (decide (n1>=2)))],r4.2)
 else some ([(.b true)],r4.2)):Option (List AV × AH O)).bind fun r6=>
 (AV.aZ (r6.1.getD 0 .u)).bind fun b7=>
 (bif b7 then
 (r6.2.st (.n h.next) 0 [(.i .u64 0),(.i .u64 0)]).bind fun h8=>
 cQ h8 (.n h.next) 0 fun eu=>
 cQ h8 (.n h.next) 1 fun eB=>
 some ((.agg [(.i .u64 eu),(.i .u64 eB)]),h8)
 else Option.bind p0 fun kv=>
 (bif ((decide ((0:Int)<=n1)) && (decide (n1<2))) then
 cQ r6.2 kv.1 (kv.2+(n1.toNat*2)) fun dU=>
 cQ r6.2 kv.1 ((kv.2+(n1.toNat*2))+1) fun fq=>
 (r6.2.st (.n h.next) 0 [(.i .u64 dU),(.i .u64 fq)]).bind fun tC=>
 cQ tC (.n h.next) 0 fun jK=>
 cQ tC (.n h.next) 1 fun gZ=>
 some ((.agg [(.i .u64 jK),(.i .u64 gZ)]),tC)
 else none))
 else none
def Wd:Sm O:=qqp
theorem qqr:ag Tryz.prog 59:=Tryz.call59
theorem qqs:run (O:=O) Tryz.prog [] Tryz.f59 (.n .z (.n (.n (.g [(2,2,[(10,.one .b)]),(6,2,[(14,.one .b)])]) (.n .z .z)) .z))=qqp:=by kernel_rfl
theorem qqt:ah RO Tryz.prog 59 Wd:=bJ qqs (aJ) Tryz.func59 (by kernel_rfl)
def qqu (k59 Pn:Sm O):Sm O:=fun xs h=>
 bif Nat.beq xs.length 1 then
 (AV.bH (xs.getD 0 .u)).bind fun p0=>
 let h1:=h.ax 1
 let h2:=h1.put h.next (.cells true 51 [(.i .u64 0),(.i .u64 0)])
 let h3:=h2.ax 1
 (k59 [(.p p0),(.i .i64 0)] h3).bind fun r4=>
 (AV.asAgg 2 r4.1).bind fun c5=>
 cf c5 0 fun n6=>
 cf c5 1 fun n7=>
 (k59 [(.p p0),(.i .i64 1)] r4.2).bind fun r8=>
 (AV.asAgg 2 r8.1).bind fun c9=>
 cf c9 0 fun eu=>
 cf c9 1 fun fc=>
 (Pn [(.agg [(.i .u64 n6),(.i .u64 n7)]),(.agg [(.i .u64 eu),(.i .u64 fc)])] r8.2).bind fun ij=>
 (AV.az 2 ij.1).bind fun Fm=>
 (AV.asAgg 2 (Fm.getD 0 .u)).bind fun Cb=>
 cf Cb 0 fun dU=>
 cf Cb 1 fun iy=>
 (AV.aZ (Fm.getD 1 .u)).bind fun Fh=>
 let tC:=ij.2.put h2.next (.cells true 51 [(.i .u64 0),(.i .u64 0)])
 (tC.st (.n h2.next) 0 [(.i .u64 dU),(.i .u64 iy)]).bind fun vZ=>
 cQ vZ (.n h2.next) 0 fun nR=>
 cQ vZ (.n h2.next) 1 fun fm=>
 (vZ.st (.n h.next) 0 [(.i .u64 nR),(.i .u64 fm)]).bind fun BB=>
 cQ BB (.n h.next) 0 fun eJ=>
 cQ BB (.n h.next) 1 fun nq=>
 some ((.agg [(.i .u64 eJ),(.i .u64 nq)]),BB)
 else none
def Vz:Sm O:=qqu Wd Zp
theorem qqw:ag Tryz.prog 17:=Tryz.call17
theorem qqx (k59 Pn:Sm O):run (O:=O) Tryz.prog [(59,k59),(58,Pn)] Tryz.f17 (.n .z (.n .z .z))=qqu k59 Pn:=by kernel_rfl
theorem qqy:ah RO Tryz.prog 17 Vz:=bJ (qqx _ _) (ab qqr qqt <| ab qfu qfw <| aJ) Tryz.func17 (by kernel_rfl)
def Uh:Sm O:=fun xs h=>
 bif Nat.beq xs.length 2 then
 (AV.asAgg 2 (xs.getD 0 .u)).bind fun c0=>
 cf c0 0 fun n1=>
 cf c0 1 fun n2=>
 (AV.asAgg 2 (xs.getD 1 .u)).bind fun c3=>
 cf c3 0 fun n4=>
 cf c3 1 fun n5=>
 let h6:=h.ax 2
 let h7:=h6.put h.next (.cells true 51 [(.i .u64 n1),(.i .u64 n2)])
 let h8:=h7.put (h.next+1) (.cells true 51 [(.i .u64 n4),(.i .u64 n5)])
 cQ h8 (.n h.next) 0 fun eu=>
 cQ h8 (.n h.next) 1 fun eB=>
 cQ h8 (.n (h.next+1)) 0 fun ig=>
 cQ h8 (.n (h.next+1)) 1 fun iy=>
 (bif (((eu:Int) == ig) && (((eB:Int) == iy) && true)) then
 some ((.i .i64 0),h8)
 else cQ h8 (.n h.next) 0 fun iM=>
 cQ h8 (.n (h.next+1)) 0 fun jK=>
 ((bif ((decide (iM<jK)) == false) then
 cQ h8 (.n h.next) 0 fun gZ=>
 cQ h8 (.n (h.next+1)) 0 fun np=>
 ((bif (((gZ:Int) == np) == true) then
 cQ h8 (.n h.next) 1 fun eJ=>
 cQ h8 (.n (h.next+1)) 1 fun nq=>
 some ([(.b (decide (eJ<nq)))],h8)
 else some ([(.b false)],h8)):Option (List AV × AH O)).bind fun jC=>
 (AV.aZ (jC.1.getD 0 .u)).bind fun b30=>
 some ([(.b b30)],jC.2)
 else some ([(.b true)],h8)):Option (List AV × AH O)).bind fun Px=>
 (AV.aZ (Px.1.getD 0 .u)).bind fun b32=>
 (bif b32 then
 some ((.i .i64 (-1)),Px.2)
 else some ((.i .i64 1),Px.2)))
 else none
def Rw:Sm O:=Uh
theorem qq1:ag Tryz.prog 155:=Tryz.call155
theorem qq2:run (O:=O) Tryz.prog [] Tryz.f155 (.n .z (.n (.n (.n .z (.n .z (.n (.g [(5,12,[(28,.one .b)]),(11,5,[(27,.one .b)])]) (.n .z .z)))) .z) .z))=Uh:=by kernel_rfl
theorem qq3:ah RO Tryz.prog 155 Rw:=bJ qq2 (aJ) Tryz.func155 (by kernel_rfl)
def qq4 (P6:Sm O):Sm O:=fun xs h=>
 bif Nat.beq xs.length 2 then
 (AV.asAgg 2 (xs.getD 0 .u)).bind fun c0=>
 cf c0 0 fun n1=>
 cf c0 1 fun n2=>
 (AV.asAgg 2 (xs.getD 1 .u)).bind fun c3=>
 cf c3 0 fun n4=>
 cf c3 1 fun n5=>
 let h6:=h.ax 2
 let h7:=h6.put h.next (.cells true 51 [(.i .u64 n1),(.i .u64 n2)])
 let h8:=h7.put (h.next+1) (.cells true 51 [(.i .u64 n4),(.i .u64 n5)])
 cQ h8 (.n h.next) 0 fun eu=>
 cQ h8 (.n h.next) 1 fun eB=>
 cQ h8 (.n (h.next+1)) 0 fun ig=>
 cQ h8 (.n (h.next+1)) 1 fun iy=>
 (P6 [(.agg [(.i .u64 eu),(.i .u64 eB)]),(.agg [(.i .u64 ig),(.i .u64 iy)])] h8).bind fun fP=>
 (AV.aX .i64 fP.1).bind fun iM=>
 some ((.b (decide (iM<0))),fP.2)
 else none
def qq5:Sm O:=qq4 Rw
theorem qq6:ag Tryz.prog 114:=Tryz.call114
theorem qq7 (P6:Sm O):run (O:=O) Tryz.prog [(155,P6)] Tryz.f114 (.n .z .z)=qq4 P6:=by kernel_rfl
theorem qq8:ah RO Tryz.prog 114 qq5:=bJ (qq7 _) (ab qq1 qq3 <| aJ) Tryz.func114 (by kernel_rfl)
def qq9 (P7 LZ:Sm O):Sm O:=fun xs h=>
 bif Nat.beq xs.length 2 then
 (AV.asAgg 2 (xs.getD 0 .u)).bind fun c0=>
 cf c0 0 fun n1=>
 cf c0 1 fun n2=>
 (AV.asAgg 2 (xs.getD 1 .u)).bind fun c3=>
 cf c3 0 fun n4=>
 cf c3 1 fun n5=>
 let h6:=h.ax 3
 let h7:=h6.put h.next (.cells true 51 [(.i .u64 n1),(.i .u64 n2)])
 let h8:=h7.put (h.next+1) (.cells true 51 [(.i .u64 n4),(.i .u64 n5)])
 let h9:=h8.put ((h.next+1)+1) (.cells true 51 [(.i .u64 0),(.i .u64 0)])
 cQ h9 (.n h.next) 0 fun fc=>
 cQ h9 (.n h.next) 1 fun fE=>
 cQ h9 (.n (h.next+1)) 0 fun dU=>
 cQ h9 (.n (h.next+1)) 1 fun fq=>
 (P7 [(.agg [(.i .u64 fc),(.i .u64 fE)]),(.agg [(.i .u64 dU),(.i .u64 fq)])] h9).bind fun jn=>
 (AV.aZ jn.1).bind fun b19=>
 (bif b19 then
 (jn.2.st (.n ((h.next+1)+1)) 0 [(.i .u64 0),(.i .u64 0)]).bind fun tx=>
 cQ tx (.n ((h.next+1)+1)) 0 fun gZ=>
 cQ tx (.n ((h.next+1)+1)) 1 fun np=>
 some ((.aG [(.agg [(.i .u64 gZ),(.i .u64 np)]),(.b false)]),tx)
 else cQ jn.2 (.n h.next) 1 fun eJ=>
 cQ jn.2 (.n (h.next+1)) 1 fun nq=>
 (LZ [(.i .u64 eJ),(.i .u64 nq),(.i .u64 0)] jn.2).bind fun jC=>
 (AV.az 2 jC.1).bind fun WJ=>
 cf WJ 0 fun wg=>
 cf WJ 1 fun nu=>
 cQ jC.2 (.n h.next) 0 fun sL=>
 cQ jC.2 (.n (h.next+1)) 0 fun qd=>
 (LZ [(.i .u64 sL),(.i .u64 qd),(.i .u64 nu)] jC.2).bind fun Hc=>
 (AV.az 2 Hc.1).bind fun c38=>
 cf c38 0 fun vk=>
 cf c38 1 fun Li=>
 (Hc.2.st (.n ((h.next+1)+1)) 0 [(.i .u64 vk),(.i .u64 wg)]).bind fun RE=>
 cQ RE (.n ((h.next+1)+1)) 0 fun vC=>
 cQ RE (.n ((h.next+1)+1)) 1 fun tB=>
 some ((.aG [(.agg [(.i .u64 vC),(.i .u64 tB)]),(.b true)]),RE))
 else none
def qra:Sm O:=qq9 qq5 gy
theorem qrb:ag Tryz.prog 61:=Tryz.call61
theorem qrc (P7 LZ:Sm O):run (O:=O) Tryz.prog [(114,P7),(115,LZ)] Tryz.f61 (.n .z (.n (.n .z (.n .z .z)) (.n .z (.n .z .z))))=qq9 P7 LZ:=by kernel_rfl
theorem qrd:ah RO Tryz.prog 61 qra:=bJ (qrc _ _) (ab qq6 qq8 <| Xz qax <| aJ) Tryz.func61 (by kernel_rfl)
def qre (P9 k61:Sm O):Sm O:=fun xs h=>
 bif Nat.beq xs.length 2 then
 (AV.bH (xs.getD 0 .u)).bind fun p0=>
 (AV.asAgg 2 (xs.getD 1 .u)).bind fun c1=>
 cf c1 0 fun n2=>
 cf c1 1 fun n3=>
 let h4:=h.ax 2
 let h5:=h4.put h.next (.cells true 51 [(.i .u64 n2),(.i .u64 n3)])
 let h6:=h5.put (h.next+1) (.cells true 51 [(.i .u64 0),(.i .u64 0)])
 let h7:=h6.ax 1
 cQ h7 (.n h.next) 0 fun n9=>
 cQ h7 (.n h.next) 1 fun fc=>
 (P9 [(.p p0)] h7).bind fun ij=>
 (AV.asAgg 2 ij.1).bind fun Fm=>
 cf Fm 0 fun ig=>
 cf Fm 1 fun dU=>
 (aO (ij.2.ld (.n h.next) 0) (some (.i .u64 n9))).bind fun _=>
 (aO (ij.2.ld (.n h.next) 1) (some (.i .u64 fc))).bind fun _=>
 (k61 [(.agg [(.i .u64 ig),(.i .u64 dU)]),(.agg [(.i .u64 n9),(.i .u64 fc)])] ij.2).bind fun gR=>
 (AV.az 2 gR.1).bind fun L9=>
 (AV.asAgg 2 (L9.getD 0 .u)).bind fun LX=>
 cf LX 0 fun fk=>
 cf LX 1 fun jK=>
 (AV.aZ (L9.getD 1 .u)).bind fun MM=>
 let DT:=gR.2.put h6.next (.cells true 51 [(.i .u64 0),(.i .u64 0)])
 (DT.st (.n h6.next) 0 [(.i .u64 fk),(.i .u64 jK)]).bind fun MN=>
 cQ MN (.n h6.next) 0 fun qi=>
 cQ MN (.n h6.next) 1 fun qy=>
 (MN.st (.n (h.next+1)) 0 [(.i .u64 qi),(.i .u64 qy)]).bind fun we=>
 cQ we (.n (h.next+1)) 0 fun lN=>
 cQ we (.n (h.next+1)) 1 fun nu=>
 some ((.agg [(.i .u64 lN),(.i .u64 nu)]),we)
 else none
def XZ:Sm O:=qre Vz qra
theorem qrg:ag Tryz.prog 19:=Tryz.call19
theorem qrh (P9 k61:Sm O):run (O:=O) Tryz.prog [(17,P9),(61,k61)] Tryz.f19 (.n .z (.n (.d [] [0,2,1,3,4,5,6,7,8,9] [0,1,0,7,15,31,31,0,191,511]) .z))=qre P9 k61:=by kernel_rfl
theorem qri:ah RO Tryz.prog 19 XZ:=bJ (qrh _ _) (ab qqw qqy <| ab qrb qrd <| aJ) Tryz.func19 (by kernel_rfl)
end
end Go.Abs.Tryz
