/-
  What functions of the program do. No conditions.
-/
import Derived.Test.YtncohicmiihjiaaGreatAbsExtern
import Derived.Test.YtncohicmiihjiaaGreatAbsWord
import Derived.Test.YtncohicmiihjiaaGreatProg
import Derived.KernelRfl
set_option linter.unusedVariables false
set_option linter.unusedSimpArgs false
set_option linter.constructorNameAsVariable false
set_option maxRecDepth 100000
namespace Go.Abs.Tryz
open Go Go.Abs Go.Proofs
noncomputable section
variable {O:Type} {RO:O->Loc->(Nat->Option Obj)->Prop}
theorem mixed:Tryz.prog.follows .mixedOrders=true:=by kernel_rfl
theorem bJ {G:List (FuncId × Sm O)} {f:FuncId} {fn:Func} {an:og} {s:Sm O} (e:run Tryz.prog G fn an=s) (hG:cS RO Tryz.prog G) (hf:Tryz.prog.funcs[f]? = some fn) (hk:RT fn=true):ai RO Tryz.prog f s:=e▸eH hG mixed hf hk an
abbrev KS:Nat:=3
abbrev qj:Nat:=33
abbrev WY:Nat:=37
abbrev Dk:Nat:=42
abbrev qas:Nat:=105
abbrev Yk:Nat:=113
abbrev qau:Nat:=155
abbrev qav:Nat:=184
abbrev N4:Nat:=211
abbrev US:Nat:=239
theorem qay:me Tryz.prog 112 (gq (O:=O)):=FN Tryz.func112 (by kernel_rfl) (by kernel_rfl) (by kernel_rfl) rfl
def qaz:Sm O:=fun xs h=>
 bif Nat.beq xs.length 0 then
 let h0:=h.az 1
 let h1:=h0.put h.next (.cells true 152 [(.i .u64 0),(.i .u64 0),(.i .u64 0),(.i .u64 0),(.i .i64 0),(.i .i64 0)])
 some ((.p (some ((.n h.next),0))),h1)
 else none
def qa0:Sm O:=qaz
theorem qa1:ag Tryz.prog 137:=Tryz.call137
theorem qa2:run (O:=O) Tryz.prog [] Tryz.f137 (.n .z .z)=qaz:=by kernel_rfl
theorem qa3:ai RO Tryz.prog 137 qa0:=bJ qa2 (aE) Tryz.func137 (by kernel_rfl)
def qa4 (Oq:Sm O):Sm O:=fun xs h=>
 bif Nat.beq xs.length 0 then
 let h0:=h.az 1
 (Oq [] h0).bind fun r1=>
 (AV.bD r1.1).bind fun p2=>
 let h3:=r1.2.put h.next (.cells true 58 [(.p p2),(.sl .nil 0),(.i .i64 0),(.i .i64 0)])
 some ((.p (some ((.n h.next),0))),h3)
 else none
def YP:Sm O:=qa4 qa0
theorem qa6:ag Tryz.prog 83:=Tryz.call83
theorem qa7 (Oq:Sm O):run (O:=O) Tryz.prog [(137,Oq)] Tryz.f83 (.n .z .z)=qa4 Oq:=by kernel_rfl
theorem qa8:ai RO Tryz.prog 83 YP:=bJ (qa7 _) (ae qa1 qa3 <| aE) Tryz.func83 (by kernel_rfl)
def qa9:Sm O:=fun xs h=>
 bif Nat.beq xs.length 2 then
 (AV.bD (xs.getD 0 .u)).bind fun p0=>
 aq xs 1 fun n1=>
 Option.bind p0 fun q2=>
 aj h q2.1 q2.2 fun n4=>
 Option.bind p0 fun q5=>
 (h.st q5.1 q5.2 [(.i .i64 (IntKind.i64.wrap (n4+n1)))]).bind fun h6=>
 Option.bind p0 fun q7=>
 aj h6 q7.1 (q7.2+1) fun n9=>
 Option.bind p0 fun kW=>
 aj h6 kW.1 kW.2 fun eD=>
 Option.bind p0 fun mO=>
 (h6.st mO.1 (mO.2+1) [(.i .i64 (if eD > n9 then eD else n9))]).bind fun mQ=>
 some ((.aB []),mQ)
 else none
def qba:Sm O:=qa9
theorem qbb:ag Tryz.prog 175:=Tryz.call175
theorem qbc:run (O:=O) Tryz.prog [] Tryz.f175 (.n .z (.d [] [0,1,2,3,4,5,6,7,8,9,10,11,12] [0,0,2,6,14,0,32,96,224,510,1023,2047,4095]))=qa9:=by kernel_rfl
theorem qbd:ai RO Tryz.prog 175 qba:=bJ qbc (aE) Tryz.func175 (by kernel_rfl)
def qbe (Ot:Sm O):Sm O:=fun xs h=>
 bif Nat.beq xs.length 2 then
 (AV.bD (xs.getD 0 .u)).bind fun p0=>
 aq xs 1 fun n1=>
 ((bif ((Option.isNone p0) == false) then
 some ([(.b (decide (n1<0)))],h)
 else some ([(.b true)],h)):Option (List AV × AH O)).bind fun r2=>
 (AV.aZ (r2.1.getD 0 .u)).bind fun b3=>
 (bif b3 then
 some ((.i .i64 1),r2.2)
 else Option.bind p0 fun q4=>
 aj r2.2 q4.1 (q4.2+4) fun n6=>
 let c7:Bool:=(decide (n1 > (IntKind.i64.wrap (281474976710656 - n6))))
 (bif c7 then
 some ((.i .i64 3),r2.2)
 else Option.bind p0 fun q8=>
 (Ot [(.p (some (q8.1,(q8.2+4)))),(.i .i64 n1)] r2.2).bind fun r9=>
 (AV.ay 0 r9.1).bind fun BK=>
 some ((.i .i64 0),r9.2)))
 else none
def YN:Sm O:=qbe qba
theorem qbg:ag Tryz.prog 146:=Tryz.call146
theorem qbh (Ot:Sm O):run (O:=O) Tryz.prog [(175,Ot)] Tryz.f146 (.n .z (.n (.n (.n (.g [(2,2,[(11,.one .b)])]) (.n .z (.n .z (.n .z .z)))) .z) (.n .z .z)))=qbe Ot:=by kernel_rfl
theorem qbi:ai RO Tryz.prog 146 YN:=bJ (qbh _) (ae qbb qbd <| aE) Tryz.func146 (by kernel_rfl)
def qbj (p0:Option (fH × Nat)):List AV × AH O->Option ((List AV × AH O) ⊕ (List AV × AH O)):=(fun r8=>
 (AV.aX .i64 (r8.1.getD 0 .u)).bind fun n9=>
 Option.bind p0 fun kW=>
 aV r8.2 kW.1 (kW.2+1) fun yZ=>
 ((bif ((decide (n9<(yZ.2:Int))) == true) then
 Option.bind p0 fun mO=>
 aV r8.2 mO.1 (mO.2+1) fun VC=>
 (bif ((decide ((0:Int)<=n9)) && (decide (n9<(VC.2:Int)))) then
 (SA.ref VC.1).bind fun QW=>
 (r8.2.ld QW.1 ((QW.2+(n9.toNat*2))+1)).bind fun ZT=>
 (AV.aZ ZT).bind fun Dv=>
 some ([(.b Dv)],r8.2)
 else none)
 else some ([(.b false)],r8.2)):Option (List AV × AH O)).bind fun gH=>
 (AV.aZ (gH.1.getD 0 .u)).bind fun TA=>
 (bif TA then
 some (Sum.inl ([(.i .i64 (IntKind.i64.wrap (n9+1)))],gH.2))
 else some (Sum.inr ([(.i .i64 n9)],gH.2))))
def Vv (zc:Sm O):Sm O:=fun xs h=>
 bif Nat.beq xs.length 2 then
 (AV.bD (xs.getD 0 .u)).bind fun p0=>
 aq xs 1 fun n1=>
 (bif (decide (n1<0)) then
 some ((.aB [(.i .i64 0),(.i .i64 1)]),h)
 else (bif (decide (n1 > 4194304)) then
 some ((.aB [(.i .i64 0),(.i .i64 7)]),h)
 else Option.bind p0 fun q2=>
 aj h q2.1 (q2.2+3) fun n4=>
 (bif (decide (n4>=262144)) then
 some ((.aB [(.i .i64 0),(.i .i64 3)]),h)
 else Option.bind p0 fun q5=>
 aj h q5.1 (q5.2+2) fun n7=>
 (bC (S:=List AV × AH O) (T:=List AV × AH O) (qbj p0) ([(.i .i64 n7)],h)).bind fun tD=>
 (AV.aX .i64 (tD.1.getD 0 .u)).bind fun iA=>
 Option.bind p0 fun EZ=>
 aV tD.2 EZ.1 (EZ.2+1) fun Lk=>
 ((bif ((iA:Int) == (Lk.2:Int)) then
 let h26:=tD.2.az 2
 Option.bind p0 fun QX=>
 aV h26 QX.1 (QX.2+1) fun HK=>
 let GK:=h26.put tD.2.next (.cells true 211 [(.sl .nil 0),(.b false)])
 (GK.bT (.loc (.n tD.2.next) 0 2) 1 2).bind fun ZU=>
 (bif (Nat.ble ((HK.2+1)*33) 35184372088832) then
 (GK.cF (tD.2.next+1) 211 2 HK.1 HK.2 1 ZU).bind fun TB=>
 (AV.dF TB.1).bind fun Be=>
 Option.bind p0 fun oX=>
 (TB.2.st oX.1 (oX.2+1) [(.sl Be.1 Be.2)]).bind fun Ou=>
 some ([],Ou)
 else none)
 else some ([],tD.2)):Option (List AV × AH O)).bind fun r36=>
 let Ov:=r36.2.az 1
 Option.bind p0 fun ZV=>
 aV Ov ZV.1 (ZV.2+1) fun ZW=>
 (bif ((((decide ((0:Int)<=n1)) && (decide (n1<=n1))) && (decide ((n1*8)<=140737488355328))) && (decide (n1<=140737488355328))) then
 let h41:=Ov.put r36.2.next (.cells true 33 ((List.replicate n1.toNat [(.i .u64 0)]).flatten))
 (bif ((decide ((0:Int)<=iA)) && (decide (iA<(ZW.2:Int)))) then
 (SA.ref ZW.1).bind fun QY=>
 (h41.st QY.1 (QY.2+(iA.toNat*2)) [(.sl (.loc (.n r36.2.next) 0 1) n1.toNat),(.b true)]).bind fun h43=>
 Option.bind p0 fun TC=>
 aj h43 TC.1 (TC.2+3) fun Ll=>
 Option.bind p0 fun q47=>
 (h43.st q47.1 (q47.2+2) [(.i .i64 (IntKind.i64.wrap (iA+1)))]).bind fun Dw=>
 Option.bind p0 fun q49=>
 (Dw.st q49.1 (q49.2+3) [(.i .i64 (IntKind.i64.wrap (Ll+1)))]).bind fun h50=>
 Option.bind p0 fun q51=>
 cD h50 q51.1 q51.2 fun p53=>
 (zc [(.p p53),(.i .i64 n1)] h50).bind fun zd=>
 (AV.aX .i64 zd.1).bind fun Lm=>
 some ((.aB [(.i .i64 iA),(.i .i64 0)]),zd.2)
 else none)
 else none))))
 else none
def AN:Sm O:=Vv YN
theorem ZX:ag Tryz.prog 99:=Tryz.call99
theorem qbn (zc:Sm O):run (O:=O) Tryz.prog [(146,zc)] Tryz.f99 (.n .z (.n (.n (.n .z (.n .z (.n .z (.n .z (.n .z (.n .z .z)))))) .z) (.n .z (.n (.n (.lp false 1 [(6,.one (.i .i64))] [(6,.one (.i .i64))] (.n (.n (.g [(7,8,[(39,.one .b)])]) .z) .z)) .z) (.n (.n .z (.j false [] .z .z)) (.n (.d [] [0,1,2,3,4,5,6,7,8,9] [0,1,3,7,0,0,32,96,255,511]) (.n .z (.n .z .z))))))))=Vv zc:=by kernel_rfl
theorem ZY:ai RO Tryz.prog 99 AN:=bJ (qbn _) (ae qbg qbi <| aE) Tryz.func99 (by kernel_rfl)
def qbp (tE:Sm O):Sm O:=fun xs h=>
 bif Nat.beq xs.length 2 then
 (AV.bD (xs.getD 0 .u)).bind fun p0=>
 aq xs 1 fun n1=>
 (bif (Option.isNone p0) then
 some ((.aB [(.p none),(.i .i64 1)]),h)
 else (tE [(.p p0),(.i .i64 n1)] h).bind fun r2=>
 (AV.ay 2 r2.1).bind fun c3=>
 aq c3 0 fun n4=>
 aq c3 1 fun n5=>
 (bif ((n5:Int) != 0) then
 some ((.aB [(.p none),(.i .i64 n5)]),r2.2)
 else let h6:=r2.2.az 1
 let h7:=h6.put r2.2.next (.cells true 135 [(.p p0),(.i .i64 n4),(.i .i64 0),(.i .i64 0),(.i .i64 0),(.b false)])
 some ((.aB [(.p (some ((.n r2.2.next),0))),(.i .i64 0)]),h7)))
 else none
def qbq:Sm O:=qbp AN
theorem qbr:ag Tryz.prog 84:=Tryz.call84
theorem qbs (tE:Sm O):run (O:=O) Tryz.prog [(99,tE)] Tryz.f84 (.n .z (.n (.n .z (.n .z .z)) (.n .z (.n (.n .z (.n .z .z)) .z))))=qbp tE:=by kernel_rfl
theorem qbt:ai RO Tryz.prog 84 qbq:=bJ (qbs _) (ae ZX ZY <| aE) Tryz.func84 (by kernel_rfl)
def qbu (tE:Sm O):Sm O:=fun xs h=>
 bif Nat.beq xs.length 2 then
 (AV.bD (xs.getD 0 .u)).bind fun p0=>
 aq xs 1 fun n1=>
 ((bif ((Option.isNone p0) == false) then
 some ([(.b (decide (n1<1)))],h)
 else some ([(.b true)],h)):Option (List AV × AH O)).bind fun r2=>
 (AV.aZ (r2.1.getD 0 .u)).bind fun b3=>
 ((bif (b3 == false) then
 some ([(.b (decide (n1 > 60)))],r2.2)
 else some ([(.b true)],r2.2)):Option (List AV × AH O)).bind fun r4=>
 (AV.aZ (r4.1.getD 0 .u)).bind fun b5=>
 (bif b5 then
 some ((.aB [(.p none),(.i .i64 1)]),r4.2)
 else (tE [(.p p0),(.i .i64 0)] r4.2).bind fun r6=>
 (AV.ay 2 r6.1).bind fun c7=>
 aq c7 0 fun n8=>
 aq c7 1 fun n9=>
 (bif ((n9:Int) != 0) then
 some ((.aB [(.p none),(.i .i64 n9)]),r6.2)
 else let ij:=r6.2.az 1
 let iq:=ij.put r6.2.next (.cells true 239 [(.p p0),(.i .i64 n8),(.i .i64 n1),(.i .i64 0),(.i .i64 0),(.i .i64 0),(.i .i64 0)])
 some ((.aB [(.p (some ((.n r6.2.next),0))),(.i .i64 0)]),iq)))
 else none
def XC:Sm O:=qbu AN
theorem qbw:ag Tryz.prog 128:=Tryz.call128
theorem qbx (tE:Sm O):run (O:=O) Tryz.prog [(99,tE)] Tryz.f128 (.n .z (.n (.n (.g [(2,2,[(13,.one .b)]),(6,2,[(17,.one .b)])]) (.n .z .z)) (.n .z (.n (.n .z (.n .z .z)) .z))))=qbu tE:=by kernel_rfl
theorem qby:ai RO Tryz.prog 128 XC:=bJ (qbx _) (ae ZX ZY <| aE) Tryz.func128 (by kernel_rfl)
def qbz (ze:Sm O):Sm O:=fun xs h=>
 bif Nat.beq xs.length 1 then
 (AV.bD (xs.getD 0 .u)).bind fun p0=>
 (ze [(.p p0),(.i .i64 5)] h).bind fun r1=>
 (AV.ay 2 r1.1).bind fun c2=>
 (AV.bD (c2.getD 0 .u)).bind fun p3=>
 aq c2 1 fun n4=>
 (bif ((n4:Int) != 0) then
 some ((.aB [(.p none),(.i .i64 n4)]),r1.2)
 else let h5:=r1.2.az 1
 let h6:=h5.put r1.2.next (.cells true 157 [(.p p0),(.p p3),(.i .i64 0),(.i .i64 0),(.i .i64 0),(.i .i64 0),(.i .i64 0),(.i .i64 0),(.i .u64 0),(.i .i64 0),(.i .i64 0)])
 some ((.aB [(.p (some ((.n r1.2.next),0))),(.i .i64 0)]),h6))
 else none
def qb0:Sm O:=qbz XC
theorem qb1:ag Tryz.prog 85:=Tryz.call85
theorem qb2 (ze:Sm O):run (O:=O) Tryz.prog [(128,ze)] Tryz.f85 (.n .z (.n .z (.n (.n .z (.n .z .z)) .z)))=qbz ze:=by kernel_rfl
theorem qb3:ai RO Tryz.prog 85 qb0:=bJ (qb2 _) (ae qbw qby <| aE) Tryz.func85 (by kernel_rfl)
def qb4 (k83 k84 k85:Sm O):Sm O:=fun xs h=>
 bif Nat.beq xs.length 2 then
 aq xs 0 fun n0=>
 aq xs 1 fun n1=>
 ((bif ((decide (n0<2)) == false) then
 some ([(.b (decide (n0 > 64)))],h)
 else some ([(.b true)],h)):Option (List AV × AH O)).bind fun r2=>
 (AV.aZ (r2.1.getD 0 .u)).bind fun b3=>
 (bif b3 then
 some ((.aB [(.p none),(.i .i64 1)]),r2.2)
 else (k83 [] r2.2).bind fun r4=>
 (AV.bD r4.1).bind fun p5=>
 (k84 [(.p p5),(.i .i64 n1)] r4.2).bind fun r6=>
 (AV.ay 2 r6.1).bind fun c7=>
 (AV.bD (c7.getD 0 .u)).bind fun p8=>
 aq c7 1 fun n9=>
 (bif ((n9:Int) != 0) then
 some ((.aB [(.p none),(.i .i64 n9)]),r6.2)
 else (k85 [(.p p5)] r6.2).bind fun du=>
 (AV.ay 2 du.1).bind fun rW=>
 (AV.bD (rW.getD 0 .u)).bind fun BL=>
 aq rW 1 fun fc=>
 (bif ((fc:Int) != 0) then
 some ((.aB [(.p none),(.i .i64 fc)]),du.2)
 else let mQ:=du.2.az 1
 let tF:=mQ.put du.2.next (.cells true 124 [(.p p5),(.p p8),(.p BL),(.i .i64 n0)])
 some ((.aB [(.p (some ((.n du.2.next),0))),(.i .i64 0)]),tF))))
 else none
def qb5:Sm O:=qb4 YP qbq qb0
theorem qb6:ag Tryz.prog 45:=Tryz.call45
theorem qb7 (k83 k84 k85:Sm O):run (O:=O) Tryz.prog [(83,k83),(84,k84),(85,k85)] Tryz.f45 (.n .z (.n (.n (.g [(2,2,[(15,.one .b)])]) (.n .z .z)) (.n .z (.n .z (.n (.n .z (.n .z .z)) (.n .z (.n (.n .z (.n .z .z)) .z)))))))=qb4 k83 k84 k85:=by kernel_rfl
theorem qb8:ai RO Tryz.prog 45 qb5:=bJ (qb7 _ _ _) (ae qa6 qa8 <| ae qbr qbt <| ae qb1 qb3 <| aE) Tryz.func45 (by kernel_rfl)
def LV:Sm O:=fun xs h=>
 bif Nat.beq xs.length 1 then
 (AV.bD (xs.getD 0 .u)).bind fun p0=>
 Option.bind p0 fun q1=>
 cD h q1.1 (q1.2+1) fun p3=>
 some ((.p p3),h)
 else none
def BC:Sm O:=LV
theorem TD:ag Tryz.prog 23:=Tryz.call23
theorem qcc:run (O:=O) Tryz.prog [] Tryz.f23 (.n .z .z)=LV:=by kernel_rfl
theorem TE:ai RO Tryz.prog 23 BC:=bJ qcc (aE) Tryz.func23 (by kernel_rfl)
def Nh:Sm O:=fun xs h=>
 bif Nat.beq xs.length 1 then
 (AV.bD (xs.getD 0 .u)).bind fun p0=>
 Option.bind p0 fun q1=>
 cD h q1.1 ((q1.2+1)+1) fun p3=>
 some ((.p p3),h)
 else none
def El:Sm O:=Nh
theorem VD:ag Tryz.prog 32:=Tryz.call32
theorem qch:run (O:=O) Tryz.prog [] Tryz.f32 (.n .z .z)=Nh:=by kernel_rfl
theorem VE:ai RO Tryz.prog 32 El:=bJ qch (aE) Tryz.func32 (by kernel_rfl)
def qcj:Sm O:=fun xs h=>
 bif Nat.beq xs.length 1 then
 (AV.bD (xs.getD 0 .u)).bind fun p0=>
 Option.bind p0 fun q1=>
 cD h q1.1 q1.2 fun p3=>
 some ((.p p3),h)
 else none
def Xc:Sm O:=qcj
theorem qcl:ag Tryz.prog 16:=Tryz.call16
theorem qcm:run (O:=O) Tryz.prog [] Tryz.f16 (.n .z .z)=qcj:=by kernel_rfl
theorem qcn:ai RO Tryz.prog 16 Xc:=bJ qcm (aE) Tryz.func16 (by kernel_rfl)
def qco:Sm O:=fun xs h=>
 bif Nat.beq xs.length 2 then
 aq xs 0 fun n0=>
 aq xs 1 fun n1=>
 ((bif ((decide (n0>=0)) == true) then
 some ([(.b (decide (n0<=n1)))],h)
 else some ([(.b false)],h)):Option (List AV × AH O)).bind fun r2=>
 (AV.aZ (r2.1.getD 0 .u)).bind fun b3=>
 some ((.b b3),r2.2)
 else none
def U2:Sm O:=qco
theorem qcq:ag Tryz.prog 151:=Tryz.call151
theorem qcr:run (O:=O) Tryz.prog [] Tryz.f151 (.n .z (.n (.g [(2,3,[(11,.one .b)])]) .z))=qco:=by kernel_rfl
theorem qcs:ai RO Tryz.prog 151 U2:=bJ qcr (aE) Tryz.func151 (by kernel_rfl)
def Sw (sS:Sm O):Sm O:=fun xs h=>
 bif Nat.beq xs.length 1 then
 (AV.asAgg 5 (xs.getD 0 .u)).bind fun c0=>
 aq c0 0 fun n1=>
 aq c0 1 fun n2=>
 aq c0 2 fun n3=>
 aq c0 3 fun n4=>
 (AV.aZ (c0.getD 4 .u)).bind fun b5=>
 let h6:=h.az 1
 let h7:=h6.put h.next (.cells true 39 [(.i .i64 n1),(.i .i64 n2),(.i .i64 n3),(.i .i64 n4),(.b b5)])
 aj h7 (.n h.next) 0 fun n9=>
 (sS [(.i .i64 n9),(.i .i64 4095)] h7).bind fun du=>
 (AV.aZ du.1).bind fun GL=>
 ((bif ((!GL) == false) then
 aj du.2 (.n h.next) 1 fun fc=>
 (sS [(.i .i64 fc),(.i .i64 4095)] du.2).bind fun kY=>
 (AV.aZ kY.1).bind fun TF=>
 some ([(.b (!TF))],kY.2)
 else some ([(.b true)],du.2)):Option (List AV × AH O)).bind fun iO=>
 (AV.aZ (iO.1.getD 0 .u)).bind fun GM=>
 (bif GM then
 some ((.i .i64 20),iO.2)
 else aj iO.2 (.n h.next) 2 fun fu=>
 (sS [(.i .i64 fu),(.i .i64 31)] iO.2).bind fun gA=>
 (AV.aZ gA.1).bind fun Ox=>
 (bif (!Ox) then
 some ((.i .i64 21),gA.2)
 else aj gA.2 (.n h.next) 3 fun fj=>
 (sS [(.i .i64 fj),(.i .i64 7)] gA.2).bind fun kZ=>
 (AV.aZ kZ.1).bind fun ZZ=>
 (bif (!ZZ) then
 some ((.i .i64 2),kZ.2)
 else some ((.i .i64 0),kZ.2))))
 else none
def NB:Sm O:=Sw U2
theorem qcv:ag Tryz.prog 139:=Tryz.call139
theorem qcw (sS:Sm O):run (O:=O) Tryz.prog [(151,sS)] Tryz.f139 (.n .z (.n (.n (.n (.g [(5,5,[(15,.one .b)])]) (.n .z (.n .z (.n .z (.n .z (.n .z .z)))))) .z) .z))=Sw sS:=by kernel_rfl
theorem qcx:ai RO Tryz.prog 139 NB:=bJ (qcw _) (ae qcq qcs <| aE) Tryz.func139 (by kernel_rfl)
def qcy (zf:Sm O):Sm O:=fun xs h=>
 bif Nat.beq xs.length 1 then
 (AV.asAgg 2 (xs.getD 0 .u)).bind fun c0=>
 aq c0 0 fun n1=>
 aq c0 1 fun n2=>
 let h3:=h.az 1
 let h4:=h3.put h.next (.cells true 37 [(.i .i64 n1),(.i .i64 n2)])
 aj h4 (.n h.next) 0 fun n6=>
 aj h4 (.n h.next) 1 fun n8=>
 (zf [(.agg [(.i .i64 n6),(.i .i64 n8),(.i .i64 0),(.i .i64 0),(.b false)])] h4).bind fun r9=>
 (AV.aX .i64 r9.1).bind fun eO=>
 some ((.b ((eO:Int) == 0)),r9.2)
 else none
def SG:Sm O:=qcy NB
theorem qc0:ag Tryz.prog 145:=Tryz.call145
theorem qc1 (zf:Sm O):run (O:=O) Tryz.prog [(139,zf)] Tryz.f145 (.n .z .z)=qcy zf:=by kernel_rfl
theorem qc2:ai RO Tryz.prog 145 SG:=bJ (qc1 _) (ae qcv qcx <| aE) Tryz.func145 (by kernel_rfl)
def qc3:Sm O:=fun xs h=>
 bif Nat.beq xs.length 1 then
 (AV.asAgg 5 (xs.getD 0 .u)).bind fun c0=>
 aq c0 0 fun n1=>
 aq c0 1 fun n2=>
 aq c0 2 fun n3=>
 aq c0 3 fun n4=>
 (AV.aZ (c0.getD 4 .u)).bind fun b5=>
 let h6:=h.az 1
 let h7:=h6.put h.next (.cells true 39 [(.i .i64 n1),(.i .i64 n2),(.i .i64 n3),(.i .i64 n4),(.b b5)])
 aj h7 (.n h.next) 0 fun n9=>
 aj h7 (.n h.next) 1 fun fy=>
 let v12:Int:=(IntKind.i64.wrap ((IntKind.i64.wrap (1+n9))+fy))
 some ((.i .i64 v12),h7)
 else none
def SF:Sm O:=qc3
theorem qc5:ag Tryz.prog 89:=Tryz.call89
theorem qc6:run (O:=O) Tryz.prog [] Tryz.f89 (.n .z .z)=qc3:=by kernel_rfl
theorem qc7:ai RO Tryz.prog 89 SF:=bJ qc6 (aE) Tryz.func89 (by kernel_rfl)
def qc8 (qu xK:Sm O):Sm O:=fun xs h=>
 bif Nat.beq xs.length 1 then
 (AV.asAgg 2 (xs.getD 0 .u)).bind fun c0=>
 aq c0 0 fun n1=>
 aq c0 1 fun n2=>
 let h3:=h.az 1
 let h4:=h3.put h.next (.cells true 37 [(.i .i64 n1),(.i .i64 n2)])
 aj h4 (.n h.next) 0 fun n6=>
 aj h4 (.n h.next) 1 fun n8=>
 (qu [(.agg [(.i .i64 n6),(.i .i64 n8)])] h4).bind fun r9=>
 (AV.aZ r9.1).bind fun GN=>
 (bif (!GN) then
 some ((.i .i64 0),r9.2)
 else aj r9.2 (.n h.next) 0 fun eD=>
 aj r9.2 (.n h.next) 1 fun iX=>
 (xK [(.agg [(.i .i64 eD),(.i .i64 iX),(.i .i64 0),(.i .i64 0),(.b false)])] r9.2).bind fun fN=>
 (AV.aX .i64 fN.1).bind fun iQ=>
 some ((.i .i64 iQ),fN.2))
 else none
def qc9:Sm O:=qc8 SG SF
theorem qda:ag Tryz.prog 138:=Tryz.call138
theorem qdb (qu xK:Sm O):run (O:=O) Tryz.prog [(145,qu),(89,xK)] Tryz.f138 (.n .z (.n (.n .z (.n .z .z)) .z))=qc8 qu xK:=by kernel_rfl
theorem qdc:ai RO Tryz.prog 138 qc9:=bJ (qdb _ _) (ae qc0 qc2 <| ae qc5 qc7 <| aE) Tryz.func138 (by kernel_rfl)
def qdd (Oy:Sm O):Sm O:=fun xs h=>
 bif Nat.beq xs.length 2 then
 (AV.asAgg 2 (xs.getD 0 .u)).bind fun c0=>
 aq c0 0 fun n1=>
 aq c0 1 fun n2=>
 aq xs 1 fun n3=>
 let h4:=h.az 1
 let h5:=h4.put h.next (.cells true 37 [(.i .i64 n1),(.i .i64 n2)])
 aj h5 (.n h.next) 0 fun n7=>
 aj h5 (.n h.next) 1 fun n9=>
 (Oy [(.agg [(.i .i64 n7),(.i .i64 n9)])] h5).bind fun du=>
 (AV.aX .i64 du.1).bind fun fy=>
 some ((.b (decide (fy > n3))),du.2)
 else none
def qde:Sm O:=qdd qc9
theorem qdf:ag Tryz.prog 86:=Tryz.call86
theorem qdg (Oy:Sm O):run (O:=O) Tryz.prog [(138,Oy)] Tryz.f86 (.n .z .z)=qdd Oy:=by kernel_rfl
theorem qdh:ai RO Tryz.prog 86 qde:=bJ (qdg _) (ae qda qdc <| aE) Tryz.func86 (by kernel_rfl)
def qdi (n4:Int) (n6:Int) (n8:Int) (eO:Int) (eD:Int):List AV × AH O->Option ((List AV × AH O) ⊕ (List AV × AH O)):=(fun fk=>
 (AV.dF (fk.1.getD 0 .u)).bind fun qJ=>
 (AV.aX .i64 (fk.1.getD 1 .u)).bind fun fR=>
 (AV.aX .i64 (fk.1.getD 2 .u)).bind fun iQ=>
 (bif (decide (iQ<5)) then
 (bif ((decide ((0:Int)<=iQ)) && (decide (iQ<5))) then
 (([(.i .i64 n4),(.i .i64 n6),(.i .i64 n8),(.i .i64 eO),(.i .i64 eD)]:List AV)[(iQ.toNat*1)]?).bind fun ZT=>
 (AV.aX .i64 ZT).bind fun iB=>
 let vo:=fk.2.az 2
 let xI:=vo.put fk.2.next (.cells true 195 [(.i .i64 fR),(.i .i64 iB)])
 (xI.bT (.loc (.n fk.2.next) 0 2) 1 2).bind fun Z0=>
 (bif (Nat.ble ((qJ.2+1)*17) 35184372088832) then
 (xI.cF (fk.2.next+1) 195 2 qJ.1 qJ.2 1 Z0).bind fun fU=>
 (AV.dF fU.1).bind fun BM=>
 some (Sum.inl ([(.sl BM.1 BM.2),(.i .i64 (IntKind.i64.wrap (fR+iB))),(.i .i64 (IntKind.i64.wrap (iQ+1)))],fU.2))
 else none)
 else none)
 else some (Sum.inr ([(.sl qJ.1 qJ.2)],fk.2))))
def qdj:Sm O:=fun xs h=>
 bif Nat.beq xs.length 0 then
 let h0:=h.az 1
 let h1:=h0.put h.next (.cells true 232 [(.i .i64 0),(.i .i64 0),(.i .i64 0),(.i .i64 0),(.i .i64 0)])
 (h1.st (.n h.next) 0 [(.i .i64 12),(.i .i64 12),(.i .i64 5),(.i .i64 3),(.i .i64 1)]).bind fun h2=>
 aj h2 (.n h.next) 0 fun n4=>
 aj h2 (.n h.next) 1 fun n6=>
 aj h2 (.n h.next) 2 fun n8=>
 aj h2 (.n h.next) 3 fun eO=>
 aj h2 (.n h.next) 4 fun eD=>
 (bC (S:=List AV × AH O) (T:=List AV × AH O) (qdi n4 n6 n8 eO eD) ([(.sl .nil 0),(.i .i64 0),(.i .i64 0)],h2)).bind fun kZ=>
 (AV.dF (kZ.1.getD 0 .u)).bind fun Lk=>
 let h26:=kZ.2.az 2
 let zg:=h26.put kZ.2.next (.cells true 195 [(.i .i64 62),(.i .i64 1)])
 (zg.bT (.loc (.n kZ.2.next) 0 2) 1 2).bind fun Z4=>
 (bif (Nat.ble ((Lk.2+1)*17) 35184372088832) then
 (zg.cF (kZ.2.next+1) 195 2 Lk.1 Lk.2 1 Z4).bind fun lB=>
 (AV.dF lB.1).bind fun Z5=>
 some ((.sl Z5.1 Z5.2),lB.2)
 else none)
 else none
def XQ:Sm O:=qdj
theorem qdl:ag Tryz.prog 110:=Tryz.call110
theorem qdm:run (O:=O) Tryz.prog [] Tryz.f110 (.n .z (.n .z (.n .z (.n .z (.n (.n .z (.n (.lp false 0 [(2,.one .sl),(3,.one (.i .i64)),(8,.one (.i .i64))] [(2,.one .sl)] (.n .z (.n .z (.n (.n (.n .z .z) .z) .z)))) .z)) .z)))))=qdj:=by kernel_rfl
theorem qdn:ai RO Tryz.prog 110 XQ:=bJ qdm (aE) Tryz.func110 (by kernel_rfl)
def qdo:Sm O:=fun xs h=>
 bif Nat.beq xs.length 1 then
 (AV.asAgg 2 (xs.getD 0 .u)).bind fun c0=>
 aq c0 0 fun n1=>
 aq c0 1 fun n2=>
 let h3:=h.az 1
 let h4:=h3.put h.next (.cells true 195 [(.i .i64 n1),(.i .i64 n2)])
 aj h4 (.n h.next) 1 fun n6=>
 ((bif ((decide (n6>=1)) == true) then
 aj h4 (.n h.next) 1 fun n8=>
 some ([(.b (decide (n8<=64)))],h4)
 else some ([(.b false)],h4)):Option (List AV × AH O)).bind fun r9=>
 (AV.aZ (r9.1.getD 0 .u)).bind fun GN=>
 ((bif (GN == true) then
 aj r9.2 (.n h.next) 0 fun eD=>
 some ([(.b (decide (eD>=0)))],r9.2)
 else some ([(.b false)],r9.2)):Option (List AV × AH O)).bind fun fk=>
 (AV.aZ (fk.1.getD 0 .u)).bind fun TG=>
 ((bif (TG == true) then
 aj fk.2 (.n h.next) 0 fun iQ=>
 aj fk.2 (.n h.next) 1 fun iB=>
 some ([(.b (decide (iQ<=(IntKind.i64.wrap (64 - iB)))))],fk.2)
 else some ([(.b false)],fk.2)):Option (List AV × AH O)).bind fun gH=>
 (AV.aZ (gH.1.getD 0 .u)).bind fun TA=>
 some ((.b TA),gH.2)
 else none
def UZ:Sm O:=qdo
theorem qdq:ag Tryz.prog 153:=Tryz.call153
theorem qdr:run (O:=O) Tryz.prog [] Tryz.f153 (.n .z (.n (.g [(3,3,[(10,.one .b)]),(8,3,[(15,.one .b)]),(13,6,[(23,.one .b)])]) .z))=qdo:=by kernel_rfl
theorem qds:ai RO Tryz.prog 153 UZ:=bJ qdr (aE) Tryz.func153 (by kernel_rfl)
def qdt (qv:Sm O):Sm O:=fun xs h=>
 bif Nat.beq xs.length 1 then
 (AV.asAgg 2 (xs.getD 0 .u)).bind fun c0=>
 aq c0 0 fun n1=>
 aq c0 1 fun n2=>
 let h3:=h.az 1
 let h4:=h3.put h.next (.cells true 195 [(.i .i64 n1),(.i .i64 n2)])
 aj h4 (.n h.next) 0 fun n6=>
 aj h4 (.n h.next) 1 fun n8=>
 (qv [(.agg [(.i .i64 n6),(.i .i64 n8)])] h4).bind fun r9=>
 (AV.aZ r9.1).bind fun GN=>
 (bif (!GN) then
 some ((.i .u64 0),r9.2)
 else aj r9.2 (.n h.next) 1 fun eD=>
 (bif (decide ((IntKind.i64.wrap (64 - eD))<0)) then
 none
 else let VF:Int:=(Int.fdiv 18446744073709551615 (2 ^ min (IntKind.i64.wrap (64 - eD)).toNat 64))
 aj r9.2 (.n h.next) 0 fun fR=>
 (bif (decide (fR<0)) then
 none
 else some ((.i .u64 (IntKind.u64.wrap (VF*2 ^ min fR.toNat 64))),r9.2))))
 else none
def U0:Sm O:=qdt UZ
theorem qdv:ag Tryz.prog 154:=Tryz.call154
theorem qdw (qv:Sm O):run (O:=O) Tryz.prog [(153,qv)] Tryz.f154 (.n .z (.n (.n .z (.n .z .z)) (.n (.d [] [0,1,2,3,4,5,6,7] [0,1,3,7,0,16,63,127]) .z)))=qdt qv:=by kernel_rfl
theorem qdx:ai RO Tryz.prog 154 U0:=bJ (qdw _) (ae qdq qds <| aE) Tryz.func154 (by kernel_rfl)
def qdy (l0:SA × Nat) (nJ:Sm O):List AV × AH O->Option ((List AV × AH O) ⊕ ((List AV × AH O) ⊕ (AV × AH O))):=(fun r1=>
 (AV.aX .u64 (r1.1.getD 0 .u)).bind fun n2=>
 (AV.aX .i64 (r1.1.getD 1 .u)).bind fun n3=>
 (bif (decide (n3<(l0.2:Int))) then
 let h4:=r1.2.az 1
 (bif ((decide ((0:Int)<=n3)) && (decide (n3<(l0.2:Int)))) then
 (SA.ref l0.1).bind fun q5=>
 aj h4 q5.1 (q5.2+(n3.toNat*2)) fun n7=>
 aj h4 q5.1 ((q5.2+(n3.toNat*2))+1) fun n9=>
 let ij:=h4.put r1.2.next (.cells true 195 [(.i .i64 0),(.i .i64 0)])
 (ij.st (.n r1.2.next) 0 [(.i .i64 n7),(.i .i64 n9)]).bind fun iq=>
 aj iq (.n r1.2.next) 0 fun fc=>
 aj iq (.n r1.2.next) 1 fun fR=>
 (nJ [(.agg [(.i .i64 fc),(.i .i64 fR)])] iq).bind fun iO=>
 (AV.aX .u64 iO.1).bind fun fe=>
 ((bif (((fe:Int) == 0) == false) then
 some ([(.b (((bG .and .u64 n2 fe):Int) != 0))],iO.2)
 else some ([(.b true)],iO.2)):Option (List AV × AH O)).bind fun iY=>
 (AV.aZ (iY.1.getD 0 .u)).bind fun b19=>
 (bif b19 then
 ((some ((.b false),iY.2):Option (AV × AH O)).map fun r=>Sum.inr (Sum.inr r))
 else some (Sum.inl ([(.i .u64 (bG .or .u64 n2 fe)),(.i .i64 (IntKind.i64.wrap (n3+1)))],iY.2)))
 else none)
 else some (Sum.inr (Sum.inl ([],r1.2)))))
def qdz (nJ:Sm O):Sm O:=fun xs h=>
 bif Nat.beq xs.length 1 then
 dx xs 0 fun l0=>
 cv (S:=List AV × AH O) (R:=(AV × AH O)) (bC (S:=List AV × AH O) (T:=(List AV × AH O) ⊕ (AV × AH O)) (qdy l0 nJ) ([(.i .u64 0),(.i .i64 0)],h)) fun gA=>
 some ((.b true),gA.2)
 else none
def qd0:Sm O:=qdz U0
theorem qd1:ag Tryz.prog 173:=Tryz.call173
theorem qd2 (nJ:Sm O):run (O:=O) Tryz.prog [(154,nJ)] Tryz.f173 (.n .z (.n .z (.n (.n .z (.n (.lp true 0 [(3,.one (.i .u64)),(9,.one (.i .i64))] [] (.n .z (.n .z (.n (.n (.n .z (.n .z (.n (.n (.g [(2,4,[(22,.one .b)])]) (.n .z .z)) .z))) .z) .z)))) .z)) .z)))=qdz nJ:=by kernel_rfl
theorem qd3:ai RO Tryz.prog 173 qd0:=bJ (qd2 _) (ae qdv qdx <| aE) Tryz.func173 (by kernel_rfl)
def qd4:Sm O:=fun xs h=>
 bif Nat.beq xs.length 1 then
 cV xs 0 fun n0=>
 ((bif (decide (n0>=4294967296)) then
 some ([(.i .u64 (Int.fdiv n0 (2 ^ 32))),(.i .i64 32)],h)
 else some ([(.i .u64 n0),(.i .i64 0)],h)):Option (List AV × AH O)).bind fun r1=>
 (AV.aX .u64 (r1.1.getD 0 .u)).bind fun n2=>
 (AV.aX .i64 (r1.1.getD 1 .u)).bind fun n3=>
 ((bif (decide (n2>=65536)) then
 some ([(.i .u64 (Int.fdiv n2 (2 ^ 16))),(.i .i64 (IntKind.i64.wrap (n3+16)))],r1.2)
 else some ([(.i .u64 n2),(.i .i64 n3)],r1.2)):Option (List AV × AH O)).bind fun r4=>
 (AV.aX .u64 (r4.1.getD 0 .u)).bind fun n5=>
 (AV.aX .i64 (r4.1.getD 1 .u)).bind fun n6=>
 ((bif (decide (n5>=256)) then
 some ([(.i .u64 (Int.fdiv n5 (2 ^ 8))),(.i .i64 (IntKind.i64.wrap (n6+8)))],r4.2)
 else some ([(.i .u64 n5),(.i .i64 n6)],r4.2)):Option (List AV × AH O)).bind fun r7=>
 (AV.aX .u64 (r7.1.getD 0 .u)).bind fun n8=>
 (AV.aX .i64 (r7.1.getD 1 .u)).bind fun n9=>
 (bif (decide ((0:Int)<=(IntKind.u8.wrap n8))) then
 (([0,1,2,2,3,3,3,3,4,4,4,4,4,4,4,4,5,5,5,5,5,5,5,5,5,5,5,5,5,5,5,5,6,6,6,6,6,6,6,6,6,6,6,6,6,6,6,6,6,6,6,6,6,6,6,6,6,6,6,6,6,6,6,6,7,7,7,7,7,7,7,7,7,7,7,7,7,7,7,7,7,7,7,7,7,7,7,7,7,7,7,7,7,7,7,7,7,7,7,7,7,7,7,7,7,7,7,7,7,7,7,7,7,7,7,7,7,7,7,7,7,7,7,7,7,7,7,7,8,8,8,8,8,8,8,8,8,8,8,8,8,8,8,8,8,8,8,8,8,8,8,8,8,8,8,8,8,8,8,8,8,8,8,8,8,8,8,8,8,8,8,8,8,8,8,8,8,8,8,8,8,8,8,8,8,8,8,8,8,8,8,8,8,8,8,8,8,8,8,8,8,8,8,8,8,8,8,8,8,8,8,8,8,8,8,8,8,8,8,8,8,8,8,8,8,8,8,8,8,8,8,8,8,8,8,8,8,8,8,8,8,8,8,8,8,8,8,8,8,8,8,8,8,8,8,8]:List UInt8)[(IntKind.u8.wrap n8).toNat]?).bind fun y10=>
 let v11:Int:=(IntKind.i64.wrap (n9+(IntKind.i64.wrap (y10.toNat:Int))))
 some ((.i .i64 v11),r7.2)
 else none)
 else none
def XO:Sm O:=qd4
theorem qd6:ag Tryz.prog 185:=Tryz.call185
theorem qd7:run (O:=O) Tryz.prog [] Tryz.f185 (.n .z (.n (.n .z (.j false [(0,.one (.i .u64)),(2,.one (.i .i64))] .z .z)) (.n (.n .z (.j false [(0,.one (.i .u64)),(2,.one (.i .i64))] .z .z)) (.n (.n .z (.j false [(0,.one (.i .u64)),(2,.one (.i .i64))] .z .z)) .z))))=qd4:=by kernel_rfl
theorem qd8:ai RO Tryz.prog 185 XO:=bJ qd7 (aE) Tryz.func185 (by kernel_rfl)
def qd9 (qv Oz nJ:Sm O):Sm O:=fun xs h=>
 bif Nat.beq xs.length 3 then
 cV xs 0 fun n0=>
 (AV.asAgg 2 (xs.getD 1 .u)).bind fun c1=>
 aq c1 0 fun n2=>
 aq c1 1 fun n3=>
 cV xs 2 fun n4=>
 let h5:=h.az 1
 let h6:=h5.put h.next (.cells true 195 [(.i .i64 n2),(.i .i64 n3)])
 aj h6 (.n h.next) 0 fun n8=>
 aj h6 (.n h.next) 1 fun eO=>
 (qv [(.agg [(.i .i64 n8),(.i .i64 eO)])] h6).bind fun eQ=>
 (AV.aZ eQ.1).bind fun vY=>
 (bif (!vY) then
 some ((.aB [(.i .u64 0),(.i .i64 1)]),eQ.2)
 else aj eQ.2 (.n h.next) 1 fun iX=>
 (Oz [(.i .u64 n4)] eQ.2).bind fun fN=>
 (AV.aX .i64 fN.1).bind fun iQ=>
 (aT (fN.2.ld (.n h.next) 1) (some (.i .i64 iX))).bind fun _=>
 (bif (decide (iQ > iX)) then
 some ((.aB [(.i .u64 0),(.i .i64 2)]),fN.2)
 else aj fN.2 (.n h.next) 0 fun iB=>
 aj fN.2 (.n h.next) 1 fun jU=>
 aj fN.2 (.n h.next) 0 fun iA=>
 (bif (decide (iA<0)) then
 none
 else (nJ [(.agg [(.i .i64 iB),(.i .i64 jU)])] fN.2).bind fun vp=>
 (AV.aX .u64 vp.1).bind fun nq=>
 (aT (vp.2.ld (.n h.next) 0) (some (.i .i64 iA))).bind fun _=>
 let v25:Int:=(bG .or .u64 (bG .andNot .u64 n0 nq) (IntKind.u64.wrap (n4*2 ^ min iA.toNat 64)))
 some ((.aB [(.i .u64 v25),(.i .i64 0)]),vp.2))))
 else none
def XP:Sm O:=qd9 UZ XO U0
theorem qeb:ag Tryz.prog 174:=Tryz.call174
theorem qec (qv Oz nJ:Sm O):run (O:=O) Tryz.prog [(153,qv),(185,Oz),(154,nJ)] Tryz.f174 (.n .z (.n (.n (.n .z (.n .z (.n (.d [] [0,2,3,1,4,5] [0,1,0,4,15,31]) (.n .z .z)))) .z) (.n (.d [] [0,1,4,5,6,7,2,3,8,9,10] [0,0,2,7,0,0,32,112,255,511,1023]) .z)))=qd9 qv Oz nJ:=by kernel_rfl
theorem qed:ai RO Tryz.prog 174 XP:=bJ (qec _ _ _) (ae qdq qds <| ae qd6 qd8 <| ae qdv qdx <| aE) Tryz.func174 (by kernel_rfl)
def qee (l0:SA × Nat) (l1:SA × Nat) (GO:Sm O):List AV × AH O->Option ((List AV × AH O) ⊕ ((List AV × AH O) ⊕ (AV × AH O))):=(fun r6=>
 (AV.aX .u64 (r6.1.getD 0 .u)).bind fun n7=>
 (AV.aX .i64 (r6.1.getD 1 .u)).bind fun n8=>
 (bif (decide (n8<(l0.2:Int))) then
 let h9:=r6.2.az 1
 (bif ((decide ((0:Int)<=n8)) && (decide (n8<(l0.2:Int)))) then
 (SA.ref l0.1).bind fun kW=>
 aj h9 kW.1 (kW.2+(n8.toNat*2)) fun eD=>
 aj h9 kW.1 ((kW.2+(n8.toNat*2))+1) fun iX=>
 let tF:=h9.put r6.2.next (.cells true 195 [(.i .i64 0),(.i .i64 0)])
 (tF.st (.n r6.2.next) 0 [(.i .i64 eD),(.i .i64 iX)]).bind fun vZ=>
 aj vZ (.n r6.2.next) 0 fun iB=>
 aj vZ (.n r6.2.next) 1 fun jU=>
 (bif ((decide ((0:Int)<=n8)) && (decide (n8<(l1.2:Int)))) then
 (SA.ref l1.1).bind fun Ln=>
 gO vZ Ln.1 (Ln.2+(n8.toNat*1)) fun fj=>
 (GO [(.i .u64 n7),(.agg [(.i .i64 iB),(.i .i64 jU)]),(.i .u64 fj)] vZ).bind fun kZ=>
 (AV.ay 2 kZ.1).bind fun Z7=>
 cV Z7 0 fun eN=>
 aq Z7 1 fun qK=>
 (bif ((qK:Int) != 0) then
 ((some ((.aB [(.i .u64 0),(.i .i64 qK)]),kZ.2):Option (AV × AH O)).map fun r=>Sum.inr (Sum.inr r))
 else some (Sum.inl ([(.i .u64 eN),(.i .i64 (IntKind.i64.wrap (n8+1)))],kZ.2)))
 else none)
 else none)
 else some (Sum.inr (Sum.inl ([(.i .u64 n7)],r6.2)))))
def qef (OA GO:Sm O):Sm O:=fun xs h=>
 bif Nat.beq xs.length 2 then
 dx xs 0 fun l0=>
 dx xs 1 fun l1=>
 (OA [(.sl l0.1 l0.2)] h).bind fun r2=>
 (AV.aZ r2.1).bind fun b3=>
 ((bif ((!b3) == false) then
 some ([(.b (((l0.2:Int):Int) != (l1.2:Int)))],r2.2)
 else some ([(.b true)],r2.2)):Option (List AV × AH O)).bind fun r4=>
 (AV.aZ (r4.1.getD 0 .u)).bind fun b5=>
 (bif b5 then
 some ((.aB [(.i .u64 0),(.i .i64 1)]),r4.2)
 else cv (S:=List AV × AH O) (R:=(AV × AH O)) (bC (S:=List AV × AH O) (T:=(List AV × AH O) ⊕ (AV × AH O)) (qee l0 l1 GO) ([(.i .u64 0),(.i .i64 0)],r4.2)) fun tG=>
 (AV.aX .u64 (tG.1.getD 0 .u)).bind fun vq=>
 some ((.aB [(.i .u64 vq),(.i .i64 0)]),tG.2))
 else none
def qeg:Sm O:=qef qd0 XP
theorem qeh:ag Tryz.prog 140:=Tryz.call140
theorem qei (OA GO:Sm O):run (O:=O) Tryz.prog [(173,OA),(174,GO)] Tryz.f140 (.n .z (.n (.n (.g [(3,5,[(20,.one .b)])]) (.n .z .z)) (.n .z (.n (.n .z (.n (.lp true 0 [(6,.one (.i .u64)),(23,.one (.i .i64))] [(6,.one (.i .u64))] (.n .z (.n .z (.n (.n (.n .z (.n (.d [] [0,1,2,3,4,5,6,7,8,9,10,11] [0,0,0,0,12,28,63,127,255,255,511,2047]) (.n (.n .z (.n .z .z)) .z))) .z) .z)))) .z)) .z))))=qef OA GO:=by kernel_rfl
theorem qej:ai RO Tryz.prog 140 qeg:=bJ (qei _ _) (ae qd1 qd3 <| ae qeb qed <| aE) Tryz.func140 (by kernel_rfl)
def qek (zf zh OB:Sm O):Sm O:=fun xs h=>
 bif Nat.beq xs.length 1 then
 (AV.asAgg 5 (xs.getD 0 .u)).bind fun c0=>
 aq c0 0 fun n1=>
 aq c0 1 fun n2=>
 aq c0 2 fun n3=>
 aq c0 3 fun n4=>
 (AV.aZ (c0.getD 4 .u)).bind fun b5=>
 let h6:=h.az 1
 let h7:=h6.put h.next (.cells true 39 [(.i .i64 n1),(.i .i64 n2),(.i .i64 n3),(.i .i64 n4),(.b b5)])
 aj h7 (.n h.next) 0 fun n9=>
 aj h7 (.n h.next) 1 fun fy=>
 aj h7 (.n h.next) 2 fun fc=>
 aj h7 (.n h.next) 3 fun fR=>
 (h7.ld (.n h.next) 4).bind fun w16=>
 (AV.aZ w16).bind fun GM=>
 (zf [(.agg [(.i .i64 n9),(.i .i64 fy),(.i .i64 fc),(.i .i64 fR),(.b GM)])] h7).bind fun iY=>
 (AV.aX .i64 iY.1).bind fun fu=>
 (bif ((fu:Int) != 0) then
 some ((.aB [(.i .u64 0),(.i .i64 fu)]),iY.2)
 else (iY.2.ld (.n h.next) 4).bind fun Z9=>
 (AV.aZ Z9).bind fun Ox=>
 ((bif Ox then
 some ([(.i .u64 1)],iY.2)
 else some ([(.i .u64 0)],iY.2)):Option (List AV × AH O)).bind fun fU=>
 (AV.aX .u64 (fU.1.getD 0 .u)).bind fun fj=>
 let GP:=fU.2.az 1
 aj GP (.n h.next) 0 fun eN=>
 aj GP (.n h.next) 1 fun qw=>
 aj GP (.n h.next) 2 fun nY=>
 aj GP (.n h.next) 3 fun pr=>
 (zh [] GP).bind fun lK=>
 (AV.dF lK.1).bind fun l34=>
 (aT (lK.2.ld (.n h.next) 0) (some (.i .i64 eN))).bind fun _=>
 (aT (lK.2.ld (.n h.next) 1) (some (.i .i64 qw))).bind fun _=>
 (aT (lK.2.ld (.n h.next) 2) (some (.i .i64 nY))).bind fun _=>
 (aT (lK.2.ld (.n h.next) 3) (some (.i .i64 pr))).bind fun _=>
 let Ou:=lK.2.put fU.2.next (.cells true 33 [(.i .u64 (IntKind.u64.wrap eN)),(.i .u64 (IntKind.u64.wrap qw)),(.i .u64 (IntKind.u64.wrap nY)),(.i .u64 (IntKind.u64.wrap pr)),(.i .u64 fj),(.i .u64 1)])
 (OB [(.sl l34.1 l34.2),(.sl (.loc (.n fU.2.next) 0 1) 6)] Ou).bind fun r36=>
 (AV.ay 2 r36.1).bind fun c37=>
 cV c37 0 fun K8=>
 aq c37 1 fun v9=>
 some ((.aB [(.i .u64 K8),(.i .i64 v9)]),r36.2))
 else none
def U3:Sm O:=qek NB XQ qeg
theorem qem:ag Tryz.prog 87:=Tryz.call87
theorem qen (zf zh OB:Sm O):run (O:=O) Tryz.prog [(139,zf),(110,zh),(140,OB)] Tryz.f87 (.n .z (.n (.n .z (.n .z (.n .z .z))) (.n .z (.n (.n .z (.j false [(5,.one (.i .u64))] .z .z)) (.n (.d [] [1,2,3,4,5,6,7,8,9,10,11,12,13,14,15,0,16,17,18,19,20,21] [0,0,2,6,14,0,32,96,224,0,512,1536,0,4096,12288,0,65534,131071,262143,262143,1048575,2097151]) .z)))))=qek zf zh OB:=by kernel_rfl
theorem qeo:ai RO Tryz.prog 87 U3:=bJ (qen _ _ _) (ae qcv qcx <| ae qdl qdn <| ae qeh qej <| aE) Tryz.func87 (by kernel_rfl)
def qep:Sm O:=fun xs h=>
 bif Nat.beq xs.length 1 then
 (AV.bD (xs.getD 0 .u)).bind fun p0=>
 Option.bind p0 fun q1=>
 aj h q1.1 (q1.2+2) fun n3=>
 some ((.i .i64 (IntKind.i64.wrap (n3+1))),h)
 else none
def Qo:Sm O:=qep
theorem qer:ag Tryz.prog 176:=Tryz.call176
theorem qes:run (O:=O) Tryz.prog [] Tryz.f176 (.n .z .z)=qep:=by kernel_rfl
theorem qet:ai RO Tryz.prog 176 Qo:=bJ qes (aE) Tryz.func176 (by kernel_rfl)
def Vp:Sm O:=fun xs h=>
 bif Nat.beq xs.length 2 then
 (AV.bD (xs.getD 0 .u)).bind fun p0=>
 aq xs 1 fun n1=>
 ((bif ((decide (n1<0)) == false) then
 Option.bind p0 fun q2=>
 aV h q2.1 (q2.2+1) fun l4=>
 some ([(.b (decide (n1>=(l4.2:Int))))],h)
 else some ([(.b true)],h)):Option (List AV × AH O)).bind fun r5=>
 (AV.aZ (r5.1.getD 0 .u)).bind fun b6=>
 ((bif (b6 == false) then
 Option.bind p0 fun q7=>
 aV r5.2 q7.1 (q7.2+1) fun l9=>
 (bif ((decide ((0:Int)<=n1)) && (decide (n1<(l9.2:Int)))) then
 (SA.ref l9.1).bind fun kW=>
 (r5.2.ld kW.1 ((kW.2+(n1.toNat*2))+1)).bind fun w11=>
 (AV.aZ w11).bind fun vY=>
 some ([(.b (!vY))],r5.2)
 else none)
 else some ([(.b true)],r5.2)):Option (List AV × AH O)).bind fun fk=>
 (AV.aZ (fk.1.getD 0 .u)).bind fun TG=>
 (bif TG then
 some ((.p none),fk.2)
 else Option.bind p0 fun lh=>
 aV fk.2 lh.1 (lh.2+1) fun BI=>
 (bif ((decide ((0:Int)<=n1)) && (decide (n1<(BI.2:Int)))) then
 (SA.ref BI.1).bind fun BN=>
 some ((.p (some (BN.1,(BN.2+(n1.toNat*2))))),fk.2)
 else none))
 else none
def KD:Sm O:=Vp
theorem qew:ag Tryz.prog 124:=Tryz.call124
theorem qex:run (O:=O) Tryz.prog [] Tryz.f124 (.n .z (.n (.n (.g [(2,7,[(15,.one .b)]),(11,9,[(26,.one .b)])]) (.n .z .z)) .z))=Vp:=by kernel_rfl
theorem qey:ai RO Tryz.prog 124 KD:=bJ qex (aE) Tryz.func124 (by kernel_rfl)
def Vu (lj zc:Sm O):Sm O:=fun xs h=>
 bif Nat.beq xs.length 3 then
 (AV.bD (xs.getD 0 .u)).bind fun p0=>
 aq xs 1 fun n1=>
 aq xs 2 fun n2=>
 (lj [(.p p0),(.i .i64 n1)] h).bind fun r3=>
 (AV.bD r3.1).bind fun p4=>
 (bif (Option.isNone p4) then
 some ((.i .i64 10),r3.2)
 else Option.bind p4 fun q5=>
 aV r3.2 q5.1 q5.2 fun l7=>
 (bif (decide (n2<(l7.2:Int))) then
 some ((.i .i64 1),r3.2)
 else (bif (decide (n2 > 4194304)) then
 some ((.i .i64 7),r3.2)
 else Option.bind p0 fun q8=>
 cD r3.2 q8.1 q8.2 fun tI=>
 Option.bind p4 fun sC=>
 aV r3.2 sC.1 sC.2 fun HI=>
 (zc [(.p tI),(.i .i64 (IntKind.i64.wrap (n2 - (HI.2:Int))))] r3.2).bind fun kY=>
 (AV.aX .i64 kY.1).bind fun fR=>
 let vZ:=kY.2.az 1
 (bif ((((decide ((0:Int)<=n2)) && (decide (n2<=n2))) && (decide ((n2*8)<=140737488355328))) && (decide (n2<=140737488355328))) then
 let QZ:=vZ.put kY.2.next (.cells true 33 ((List.replicate n2.toNat [(.i .u64 0)]).flatten))
 Option.bind p4 fun BN=>
 aV QZ BN.1 BN.2 fun VG=>
 (bif Nat.beq (min VG.2 n2.toNat) 0 then
 Option.bind p4 fun HL=>
 (QZ.st HL.1 HL.2 [(.sl (.loc (.n kY.2.next) 0 1) n2.toNat)]).bind fun Dx=>
 some ((.i .i64 0),Dx)
 else
 (QZ.bT VG.1 (min VG.2 n2.toNat) 1).bind fun Q0=>
 (QZ.zU (.loc (.n kY.2.next) 0 1) Q0).bind fun VH=>
 Option.bind p4 fun Q1=>
 (VH.st Q1.1 Q1.2 [(.sl (.loc (.n kY.2.next) 0 1) n2.toNat)]).bind fun zg=>
 some ((.i .i64 0),zg))
 else none))))
 else none
def HG:Sm O:=Vu KD YN
theorem qe1:ag Tryz.prog 183:=Tryz.call183
theorem qe2 (lj zc:Sm O):run (O:=O) Tryz.prog [(124,lj),(146,zc)] Tryz.f183 (.n .z (.n .z (.n (.n (.n .z (.n .z (.n .z (.n .z (.n .z (.n .z .z)))))) .z) (.n (.d [] [0,1,2,3,4,5,6,7,8,9,10,11] [0,1,3,7,0,0,32,96,224,480,1008,2047]) (.n .z (.n .z (.n .z .z)))))))=Vu lj zc:=by kernel_rfl
theorem qe3:ai RO Tryz.prog 183 HG:=bJ (qe2 _ _) (ae qew qey <| ae qbg qbi <| aE) Tryz.func183 (by kernel_rfl)
def qe4 (qx OC:Sm O):Sm O:=fun xs h=>
 bif Nat.beq xs.length 1 then
 (AV.bD (xs.getD 0 .u)).bind fun p0=>
 Option.bind p0 fun q1=>
 aj h q1.1 (q1.2+3) fun n3=>
 (bif (decide (n3>=1048576)) then
 some ((.i .i64 3),h)
 else Option.bind p0 fun q4=>
 aj h q4.1 (q4.2+3) fun n6=>
 Option.bind p0 fun q7=>
 aj h q7.1 (q7.2+4) fun n9=>
 (bif (decide (n6<n9)) then
 some ((.i .i64 0),h)
 else Option.bind p0 fun kW=>
 aj h kW.1 (kW.2+4) fun eD=>
 let VF:Int:=(if (IntKind.i64.wrap (2*eD)) > 8 then (IntKind.i64.wrap (2*eD)) else 8)
 Option.bind p0 fun jx=>
 cD h jx.1 jx.2 fun vd=>
 Option.bind p0 fun sD=>
 aj h sD.1 (sD.2+1) fun fu=>
 (qx [(.p p0)] h).bind fun gA=>
 (AV.aX .i64 gA.1).bind fun lM=>
 (aT (gA.2.ld jx.1 jx.2) (some (.p vd))).bind fun _=>
 (aT (gA.2.ld sD.1 (sD.2+1)) (some (.i .i64 fu))).bind fun _=>
 (OC [(.p vd),(.i .i64 fu),(.i .i64 (IntKind.i64.wrap (VF*lM)))] gA.2).bind fun fU=>
 (AV.aX .i64 fU.1).bind fun fj=>
 (bif ((fj:Int) != 0) then
 some ((.i .i64 3),fU.2)
 else Option.bind p0 fun HL=>
 (fU.2.st HL.1 (HL.2+4) [(.i .i64 VF)]).bind fun Dx=>
 some ((.i .i64 0),Dx))))
 else none
def Xv:Sm O:=qe4 Qo HG
theorem qe6:ag Tryz.prog 169:=Tryz.call169
theorem qe7 (qx OC:Sm O):run (O:=O) Tryz.prog [(176,qx),(183,OC)] Tryz.f169 (.n .z (.n (.n (.n .z (.n .z (.n (.d [] [0,1,2,3,4,5,6,7,8,9] [0,1,3,7,0,16,48,112,255,511]) (.n .z .z)))) .z) (.n .z (.n (.n (.d [] [0,1,2,3,4,5,6,7,8,9,10,11,12,13] [0,1,3,7,0,16,48,112,0,0,512,1792,4095,8191]) (.n .z (.n .z .z))) (.n .z .z)))))=qe4 qx OC:=by kernel_rfl
theorem qe8:ai RO Tryz.prog 169 Xv:=bJ (qe7 _ _) (ae qer qet <| ae qe1 qe3 <| aE) Tryz.func169 (by kernel_rfl)
def qe9 (qx:Sm O):Sm O:=fun xs h=>
 bif Nat.beq xs.length 3 then
 (AV.bD (xs.getD 0 .u)).bind fun p0=>
 aq xs 1 fun n1=>
 aq xs 2 fun n2=>
 (qx [(.p p0)] h).bind fun r3=>
 (AV.aX .i64 r3.1).bind fun n4=>
 let v5:Int:=(IntKind.i64.wrap ((IntKind.i64.wrap (n1 - 1))*n4))
 let v6:Int:=(IntKind.i64.wrap ((IntKind.i64.wrap (v5+1))+n2))
 some ((.i .i64 v6),r3.2)
 else none
def Hw:Sm O:=qe9 Qo
theorem qfb:ag Tryz.prog 159:=Tryz.call159
theorem qfc (qx:Sm O):run (O:=O) Tryz.prog [(176,qx)] Tryz.f159 (.n .z .z)=qe9 qx:=by kernel_rfl
theorem qfd:ai RO Tryz.prog 159 Hw:=bJ (qfc _) (ae qer qet <| aE) Tryz.func159 (by kernel_rfl)
def QJ (lj:Sm O):Sm O:=fun xs h=>
 bif Nat.beq xs.length 4 then
 (AV.bD (xs.getD 0 .u)).bind fun p0=>
 aq xs 1 fun n1=>
 aq xs 2 fun n2=>
 aq xs 3 fun n3=>
 (lj [(.p p0),(.i .i64 n1)] h).bind fun r4=>
 (AV.bD r4.1).bind fun p5=>
 (bif (Option.isNone p5) then
 some ((.aB [(.sl .nil 0),(.i .i64 10)]),r4.2)
 else ((bif ((decide (n3<0)) == false) then
 some ([(.b (decide (n2<0)))],r4.2)
 else some ([(.b true)],r4.2)):Option (List AV × AH O)).bind fun r6=>
 (AV.aZ (r6.1.getD 0 .u)).bind fun b7=>
 ((bif (b7 == false) then
 Option.bind p5 fun q8=>
 aV r6.2 q8.1 q8.2 fun TH=>
 some ([(.b (decide (n2 > (TH.2:Int))))],r6.2)
 else some ([(.b true)],r6.2)):Option (List AV × AH O)).bind fun eQ=>
 (AV.aZ (eQ.1.getD 0 .u)).bind fun vY=>
 ((bif (vY == false) then
 Option.bind p5 fun mO=>
 aV eQ.2 mO.1 mO.2 fun VC=>
 let sG:Bool:=(decide (n3 > (IntKind.i64.wrap ((VC.2:Int) - n2))))
 some ([(.b sG)],eQ.2)
 else some ([(.b true)],eQ.2)):Option (List AV × AH O)).bind fun dZ=>
 (AV.aZ (dZ.1.getD 0 .u)).bind fun Dv=>
 (bif Dv then
 some ((.aB [(.sl .nil 0),(.i .i64 11)]),dZ.2)
 else Option.bind p5 fun GR=>
 aV dZ.2 GR.1 GR.2 fun Q2=>
 (bif (((decide ((0:Int)<=n2)) && (decide (n2<=(IntKind.i64.wrap (n2+n3))))) && (decide ((IntKind.i64.wrap (n2+n3))<=(Q2.2:Int)))) then
 (SA.B4 Q2.1 n2.toNat 1).bind fun a22=>
 some ((.aB [(.sl a22 ((IntKind.i64.wrap (n2+n3)).toNat - n2.toNat)),(.i .i64 0)]),dZ.2)
 else none)))
 else none
def Df:Sm O:=QJ KD
theorem qfg:ag Tryz.prog 156:=Tryz.call156
theorem qfh (lj:Sm O):run (O:=O) Tryz.prog [(124,lj)] Tryz.f156 (.n .z (.n .z (.n (.n (.n .z (.n .z (.n (.g [(2,2,[(23,.one .b)]),(6,7,[(32,.one .b)]),(15,9,[(43,.one .b)])]) (.n .z .z)))) .z) .z)))=QJ lj:=by kernel_rfl
theorem qfi:ai RO Tryz.prog 156 Df:=bJ (qfh _) (ae qew qey <| aE) Tryz.func156 (by kernel_rfl)
def qfj:Sm O:=fun xs h=>
 bif Nat.beq xs.length 1 then
 cV xs 0 fun n0=>
 let h1:=h.az 1
 let h2:=h1.put h.next (.cells true 51 [(.i .u64 0),(.i .u64 0)])
 (h2.st (.n h.next) 0 [(.i .u64 0),(.i .u64 n0)]).bind fun h3=>
 gO h3 (.n h.next) 0 fun n5=>
 gO h3 (.n h.next) 1 fun n7=>
 some ((.agg [(.i .u64 n5),(.i .u64 n7)]),h3)
 else none
def qfk:Sm O:=qfj
theorem qfl:ag Tryz.prog 179:=Tryz.call179
theorem qfm:run (O:=O) Tryz.prog [] Tryz.f179 (.n .z .z)=qfj:=by kernel_rfl
theorem qfn:ai RO Tryz.prog 179 qfk:=bJ qfm (aE) Tryz.func179 (by kernel_rfl)
def qfo:Sm O:=fun xs h=>
 bif Nat.beq xs.length 0 then
 let h0:=h.az 1
 let h1:=h0.put h.next (.cells true 51 [(.i .u64 0),(.i .u64 0)])
 (h1.st (.n h.next) 0 [(.i .u64 18446744073709551615),(.i .u64 18446744073709551615)]).bind fun h2=>
 gO h2 (.n h.next) 0 fun n4=>
 gO h2 (.n h.next) 1 fun n6=>
 some ((.agg [(.i .u64 n4),(.i .u64 n6)]),h2)
 else none
def qfp:Sm O:=qfo
theorem qfq:ag Tryz.prog 113:=Tryz.call113
theorem qfr:run (O:=O) Tryz.prog [] Tryz.f113 (.n .z .z)=qfo:=by kernel_rfl
theorem qfs:ai RO Tryz.prog 113 qfp:=bJ qfr (aE) Tryz.func113 (by kernel_rfl)
def qft (Lo OD:Sm O):Sm O:=fun xs h=>
 bif Nat.beq xs.length 2 then
 (AV.asAgg 2 (xs.getD 0 .u)).bind fun c0=>
 cV c0 0 fun n1=>
 cV c0 1 fun n2=>
 (AV.asAgg 2 (xs.getD 1 .u)).bind fun c3=>
 cV c3 0 fun n4=>
 cV c3 1 fun n5=>
 let h6:=h.az 3
 let h7:=h6.put h.next (.cells true 51 [(.i .u64 n1),(.i .u64 n2)])
 let h8:=h7.put (h.next+1) (.cells true 51 [(.i .u64 n4),(.i .u64 n5)])
 let h9:=h8.put ((h.next+1)+1) (.cells true 51 [(.i .u64 0),(.i .u64 0)])
 gO h9 (.n h.next) 1 fun fy=>
 gO h9 (.n (h.next+1)) 1 fun fc=>
 (Lo [(.i .u64 fy),(.i .u64 fc),(.i .u64 0)] h9).bind fun kY=>
 (AV.ay 2 kY.1).bind fun c15=>
 cV c15 0 fun iQ=>
 cV c15 1 fun fe=>
 gO kY.2 (.n h.next) 0 fun fu=>
 gO kY.2 (.n (h.next+1)) 0 fun lM=>
 (Lo [(.i .u64 fu),(.i .u64 lM),(.i .u64 fe)] kY.2).bind fun fU=>
 (AV.ay 2 fU.1).bind fun Q3=>
 cV Q3 0 fun nq=>
 cV Q3 1 fun oZ=>
 (bif ((oZ:Int) != 0) then
 (OD [] fU.2).bind fun lC=>
 (AV.asAgg 2 lC.1).bind fun E0=>
 cV E0 0 fun qw=>
 cV E0 1 fun vq=>
 (lC.2.st (.n ((h.next+1)+1)) 0 [(.i .u64 qw),(.i .u64 vq)]).bind fun GK=>
 gO GK (.n ((h.next+1)+1)) 0 fun pr=>
 gO GK (.n ((h.next+1)+1)) 1 fun tJ=>
 some ((.aB [(.agg [(.i .u64 pr),(.i .u64 tJ)]),(.b false)]),GK)
 else (fU.2.st (.n ((h.next+1)+1)) 0 [(.i .u64 nq),(.i .u64 iQ)]).bind fun Ou=>
 gO Ou (.n ((h.next+1)+1)) 0 fun BO=>
 gO Ou (.n ((h.next+1)+1)) 1 fun v9=>
 some ((.aB [(.agg [(.i .u64 BO),(.i .u64 v9)]),(.b true)]),Ou))
 else none
def qfu:Sm O:=qft gq qfp
theorem qfv:ag Tryz.prog 58:=Tryz.call58
theorem qfw (Lo OD:Sm O):run (O:=O) Tryz.prog [(112,Lo),(113,OD)] Tryz.f58 (.n .z (.n .z (.n .z (.n (.n .z (.n .z .z)) .z))))=qft Lo OD:=by kernel_rfl
theorem qfx:ai RO Tryz.prog 58 qfu:=bJ (qfw _ _) (af9 qay <| ae qfq qfs <| aE) Tryz.func58 (by kernel_rfl)
def YO (OE k58:Sm O):Sm O:=fun xs h=>
 bif Nat.beq xs.length 3 then
 (AV.bD (xs.getD 0 .u)).bind fun p0=>
 aq xs 1 fun n1=>
 aq xs 2 fun n2=>
 ((bif ((Option.isNone p0) == false) then
 some ([(.b (decide (n1<0)))],h)
 else some ([(.b true)],h)):Option (List AV × AH O)).bind fun r3=>
 (AV.aZ (r3.1.getD 0 .u)).bind fun b4=>
 ((bif (b4 == false) then
 some ([(.b (decide (n1>=2)))],r3.2)
 else some ([(.b true)],r3.2)):Option (List AV × AH O)).bind fun r5=>
 (AV.aZ (r5.1.getD 0 .u)).bind fun b6=>
 ((bif (b6 == false) then
 some ([(.b (decide (n2<1)))],r5.2)
 else some ([(.b true)],r5.2)):Option (List AV × AH O)).bind fun r7=>
 (AV.aZ (r7.1.getD 0 .u)).bind fun b8=>
 (bif b8 then
 some ((.aB []),r7.2)
 else Option.bind p0 fun q9=>
 (bif ((decide ((0:Int)<=n1)) && (decide (n1<2))) then
 gO r7.2 q9.1 (q9.2+(n1.toNat*2)) fun fy=>
 gO r7.2 q9.1 ((q9.2+(n1.toNat*2))+1) fun fc=>
 Option.bind p0 fun jx=>
 (OE [(.i .u64 (IntKind.u64.wrap n2))] r7.2).bind fun fN=>
 (AV.asAgg 2 fN.1).bind fun sG=>
 cV sG 0 fun fe=>
 cV sG 1 fun iB=>
 (aT (fN.2.ld q9.1 (q9.2+(n1.toNat*2))) (some (.i .u64 fy))).bind fun _=>
 (aT (fN.2.ld q9.1 ((q9.2+(n1.toNat*2))+1)) (some (.i .u64 fc))).bind fun _=>
 (k58 [(.agg [(.i .u64 fy),(.i .u64 fc)]),(.agg [(.i .u64 fe),(.i .u64 iB)])] fN.2).bind fun gH=>
 (AV.ay 2 gH.1).bind fun Bh=>
 (AV.asAgg 2 (Bh.getD 0 .u)).bind fun xL=>
 cV xL 0 fun iA=>
 cV xL 1 fun fj=>
 (AV.aZ (Bh.getD 1 .u)).bind fun b24=>
 (bif ((decide ((0:Int)<=n1)) && (decide (n1<2))) then
 (gH.2.st jx.1 (jx.2+(n1.toNat*2)) [(.i .u64 iA),(.i .u64 fj)]).bind fun Dx=>
 some ((.aB []),Dx)
 else none)
 else none))
 else none
def KB:Sm O:=YO qfk qfu
theorem qf0:ag Tryz.prog 157:=Tryz.call157
theorem qf1 (OE k58:Sm O):run (O:=O) Tryz.prog [(179,OE),(58,k58)] Tryz.f157 (.n (.n (.g [(2,2,[(11,.one .b)]),(6,2,[(15,.one .b)]),(10,2,[(19,.one .b)])]) .z) (.d [] [0,1,2,3,4,5,6,7,8,9,15,16,10,11,12,13,14,17,18] [0,0,0,0,4,20,60,124,0,256,768,2044,4092,8188,8188,1,32769,114687,245759]))=YO OE k58:=by kernel_rfl
theorem qf2:ai RO Tryz.prog 157 KB:=bJ (qf1 _ _) (ae qfl qfn <| ae qfv qfx <| aE) Tryz.func157 (by kernel_rfl)
def YU (kv kz:Sm O):Sm O:=fun xs h=>
 bif Nat.beq xs.length 4 then
 (AV.bD (xs.getD 0 .u)).bind fun p0=>
 aq xs 1 fun n1=>
 aq xs 2 fun n2=>
 cV xs 3 fun n3=>
 (kv [(.p p0),(.i .i64 n1),(.i .i64 n2),(.i .i64 1)] h).bind fun r4=>
 (AV.ay 2 r4.1).bind fun c5=>
 dx c5 0 fun l6=>
 aq c5 1 fun n7=>
 (bif ((n7:Int) != 0) then
 some ((.i .i64 n7),r4.2)
 else Option.bind p0 fun q8=>
 cD r4.2 q8.1 q8.2 fun tI=>
 (kz [(.p tI),(.i .i64 1),(.i .i64 1)] r4.2).bind fun eQ=>
 (AV.ay 0 eQ.1).bind fun c12=>
 (bif (decide ((0:Int)<(l6.2:Int))) then
 (SA.ref l6.1).bind fun mO=>
 (eQ.2.st mO.1 mO.2 [(.i .u64 n3)]).bind fun mQ=>
 some ((.i .i64 0),mQ)
 else none))
 else none
def yO:Sm O:=YU Df KB
theorem TI:ag Tryz.prog 141:=Tryz.call141
theorem qf6 (kv kz:Sm O):run (O:=O) Tryz.prog [(156,kv),(157,kz)] Tryz.f141 (.n .z (.n .z (.n (.n .z (.n .z .z)) (.n .z (.n .z .z)))))=YU kv kz:=by kernel_rfl
theorem TJ:ai RO Tryz.prog 141 yO:=bJ (qf6 _ _) (ae qfg qfi <| ae qf0 qf2 <| aE) Tryz.func141 (by kernel_rfl)
def YR (kv kz:Sm O):Sm O:=fun xs h=>
 bif Nat.beq xs.length 3 then
 (AV.bD (xs.getD 0 .u)).bind fun p0=>
 aq xs 1 fun n1=>
 aq xs 2 fun n2=>
 (kv [(.p p0),(.i .i64 n1),(.i .i64 n2),(.i .i64 1)] h).bind fun r3=>
 (AV.ay 2 r3.1).bind fun c4=>
 dx c4 0 fun l5=>
 aq c4 1 fun n6=>
 (bif ((n6:Int) != 0) then
 some ((.aB [(.i .u64 0),(.i .i64 n6)]),r3.2)
 else Option.bind p0 fun q7=>
 cD r3.2 q7.1 q7.2 fun p9=>
 (kz [(.p p9),(.i .i64 0),(.i .i64 1)] r3.2).bind fun du=>
 (AV.ay 0 du.1).bind fun rW=>
 (bif (decide ((0:Int)<(l5.2:Int))) then
 (SA.ref l5.1).bind fun px=>
 gO du.2 px.1 px.2 fun iX=>
 some ((.aB [(.i .u64 iX),(.i .i64 0)]),du.2)
 else none))
 else none
def yN:Sm O:=YR Df KB
theorem TK:ag Tryz.prog 117:=Tryz.call117
theorem qgb (kv kz:Sm O):run (O:=O) Tryz.prog [(156,kv),(157,kz)] Tryz.f117 (.n .z (.n .z (.n (.n .z (.n .z .z)) (.n .z .z))))=YR kv kz:=by kernel_rfl
theorem TL:ai RO Tryz.prog 117 yN:=bJ (qgb _ _) (ae qfg qfi <| ae qf0 qf2 <| aE) Tryz.func117 (by kernel_rfl)
def Vt (kv kz:Sm O):Sm O:=fun xs h=>
 bif Nat.beq xs.length 4 then
 (AV.bD (xs.getD 0 .u)).bind fun p0=>
 aq xs 1 fun n1=>
 aq xs 2 fun n2=>
 aq xs 3 fun n3=>
 (kv [(.p p0),(.i .i64 n1),(.i .i64 n2),(.i .i64 n3)] h).bind fun r4=>
 (AV.ay 2 r4.1).bind fun c5=>
 dx c5 0 fun l6=>
 aq c5 1 fun n7=>
 (bif ((n7:Int) != 0) then
 some ((.i .i64 n7),r4.2)
 else Option.bind p0 fun q8=>
 cD r4.2 q8.1 q8.2 fun tI=>
 (kz [(.p tI),(.i .i64 1),(.i .i64 n3)] r4.2).bind fun eQ=>
 (AV.ay 0 eQ.1).bind fun c12=>
 (bif Nat.beq l6.2 0 then
 some ((.i .i64 0),eQ.2)
 else
 (eQ.2.zU l6.1 ((List.replicate l6.2 [(.i .u64 0)]).flatten)).bind fun jy=>
 some ((.i .i64 0),jy)))
 else none
def HF:Sm O:=Vt Df KB
theorem qgf:ag Tryz.prog 170:=Tryz.call170
theorem qgg (kv kz:Sm O):run (O:=O) Tryz.prog [(156,kv),(157,kz)] Tryz.f170 (.n .z (.n .z (.n (.n .z (.n .z .z)) (.n .z (.n .z .z)))))=Vt kv kz:=by kernel_rfl
theorem qgh:ai RO Tryz.prog 170 HF:=bJ (qgg _ _) (ae qfg qfi <| ae qf0 qf2 <| aE) Tryz.func170 (by kernel_rfl)
def qgi (OF gg eS eX OG:Sm O):Sm O:=fun xs h=>
 bif Nat.beq xs.length 1 then
 (AV.bD (xs.getD 0 .u)).bind fun p0=>
 Option.bind p0 fun q1=>
 aj h q1.1 (q1.2+5) fun n3=>
 (bif ((n3:Int) == 0) then
 (OF [(.p p0)] h).bind fun r4=>
 (AV.aX .i64 r4.1).bind fun n5=>
 (bif ((n5:Int) != 0) then
 some ((.aB [(.i .i64 0),(.i .i64 n5)]),r4.2)
 else Option.bind p0 fun q6=>
 aj r4.2 q6.1 (q6.2+3) fun n8=>
 Option.bind p0 fun q9=>
 (r4.2.st q9.1 (q9.2+3) [(.i .i64 (IntKind.i64.wrap (n8+1)))]).bind fun ij=>
 Option.bind p0 fun sC=>
 aj ij sC.1 (sC.2+3) fun fc=>
 Option.bind p0 fun jx=>
 cD ij jx.1 jx.2 fun vd=>
 Option.bind p0 fun sD=>
 aj ij sD.1 (sD.2+1) fun fu=>
 (gg [(.p p0),(.i .i64 fc),(.i .i64 (-1))] ij).bind fun gA=>
 (AV.aX .i64 gA.1).bind fun lM=>
 (aT (gA.2.ld jx.1 jx.2) (some (.p vd))).bind fun _=>
 (aT (gA.2.ld sD.1 (sD.2+1)) (some (.i .i64 fu))).bind fun _=>
 (eS [(.p vd),(.i .i64 fu),(.i .i64 lM),(.i .u64 1)] gA.2).bind fun fU=>
 (AV.aX .i64 fU.1).bind fun fj=>
 Option.bind p0 fun HL=>
 aj fU.2 HL.1 (HL.2+6) fun eN=>
 Option.bind p0 fun QX=>
 (fU.2.st QX.1 (QX.2+6) [(.i .i64 (IntKind.i64.wrap (eN+1)))]).bind fun Bi=>
 some ((.aB [(.i .i64 fc),(.i .i64 0)]),Bi))
 else Option.bind p0 fun Mm=>
 cD h Mm.1 Mm.2 fun VI=>
 Option.bind p0 fun NS=>
 aj h NS.1 (NS.2+1) fun tJ=>
 (gg [(.p p0),(.i .i64 n3),(.i .i64 0)] h).bind fun VJ=>
 (AV.aX .i64 VJ.1).bind fun rU=>
 (aT (VJ.2.ld Mm.1 Mm.2) (some (.p VI))).bind fun _=>
 (aT (VJ.2.ld NS.1 (NS.2+1)) (some (.i .i64 tJ))).bind fun _=>
 (eX [(.p VI),(.i .i64 tJ),(.i .i64 rU)] VJ.2).bind fun Mn=>
 (AV.ay 2 Mn.1).bind fun c38=>
 cV c38 0 fun v9=>
 aq c38 1 fun QR=>
 Option.bind p0 fun q41=>
 cD Mn.2 q41.1 q41.2 fun p43=>
 Option.bind p0 fun TC=>
 aj Mn.2 TC.1 (TC.2+1) fun Ll=>
 (gg [(.p p0),(.i .i64 n3),(.i .i64 (-1))] Mn.2).bind fun BP=>
 (AV.aX .i64 BP.1).bind fun Dy=>
 (aT (BP.2.ld q41.1 q41.2) (some (.p p43))).bind fun _=>
 (aT (BP.2.ld TC.1 (TC.2+1)) (some (.i .i64 Ll))).bind fun _=>
 (eX [(.p p43),(.i .i64 Ll),(.i .i64 Dy)] BP.2).bind fun sT=>
 (AV.ay 2 sT.1).bind fun c50=>
 cV c50 0 fun Fa=>
 aq c50 1 fun xB=>
 Option.bind p0 fun Mo=>
 cD sT.2 Mo.1 Mo.2 fun p55=>
 Option.bind p0 fun q56=>
 aj sT.2 q56.1 (q56.2+1) fun HM=>
 (gg [(.p p0),(.i .i64 n3),(.i .i64 (-1))] sT.2).bind fun r59=>
 (AV.aX .i64 r59.1).bind fun BQ=>
 (aT (r59.2.ld Mo.1 Mo.2) (some (.p p55))).bind fun _=>
 (aT (r59.2.ld q56.1 (q56.2+1)) (some (.i .i64 HM))).bind fun _=>
 (eS [(.p p55),(.i .i64 HM),(.i .i64 BQ),(.i .u64 (bG .or .u64 Fa 1))] r59.2).bind fun ve=>
 (AV.aX .i64 ve.1).bind fun OH=>
 Option.bind p0 fun q63=>
 cD ve.2 q63.1 q63.2 fun p65=>
 Option.bind p0 fun q66=>
 aj ve.2 q66.1 (q66.2+1) fun Kv=>
 Option.bind p0 fun Mp=>
 aj ve.2 Mp.1 (Mp.2+2) fun HN=>
 (gg [(.p p0),(.i .i64 n3),(.i .i64 0)] ve.2).bind fun OI=>
 (AV.aX .i64 OI.1).bind fun TM=>
 (aT (OI.2.ld q63.1 q63.2) (some (.p p65))).bind fun _=>
 (aT (OI.2.ld q66.1 (q66.2+1)) (some (.i .i64 Kv))).bind fun _=>
 (aT (OI.2.ld Mp.1 (Mp.2+2)) (some (.i .i64 HN))).bind fun _=>
 (OG [(.p p65),(.i .i64 Kv),(.i .i64 TM),(.i .i64 HN)] OI.2).bind fun Q4=>
 (AV.aX .i64 Q4.1).bind fun VK=>
 Option.bind p0 fun q76=>
 (Q4.2.st q76.1 (q76.2+5) [(.i .i64 (IntKind.i64.wrap v9))]).bind fun h77=>
 Option.bind p0 fun q78=>
 aj h77 q78.1 (q78.2+6) fun n80=>
 Option.bind p0 fun q81=>
 (h77.st q81.1 (q81.2+6) [(.i .i64 (IntKind.i64.wrap (n80+1)))]).bind fun HJ=>
 some ((.aB [(.i .i64 n3),(.i .i64 0)]),HJ))
 else none
def Nu:Sm O:=qgi Xv Hw yO yN HF
theorem qgk:ag Tryz.prog 129:=Tryz.call129
theorem qgl (OF gg eS eX OG:Sm O):run (O:=O) Tryz.prog [(169,OF),(159,gg),(141,eS),(117,eX),(170,OG)] Tryz.f129 (.n .z (.n .z (.n (.n .z (.n (.n (.n .z (.n .z (.n .z .z))) (.n .z (.n .z (.n (.d [] [0,1,2,3,4,5,6,7,8,9,10,11] [0,1,3,7,0,16,48,112,0,0,768,2047]) (.n .z .z))))) .z)) (.n (.d [] [0,1,2,3,4,5,6,7,8,9,10,11,12,13,14,15,16] [0,1,3,7,0,16,48,112,0,0,768,2047,4095,8191,8191,16383,65535]) (.n (.d [] [0,1,2,3,4,5,6,7,8,9,10,11,12,13,14,15,16] [0,1,3,7,0,16,48,112,0,0,768,2047,4095,8191,8191,16383,65535]) (.n (.d [] [0,1,2,3,4,5,6,7,8,9,11,12,10,13] [0,1,3,7,0,16,48,112,0,0,768,0,2048,8191]) (.n (.d [] [0,1,2,3,4,5,6,7,8,9,11,12,13,14,10,15] [0,1,3,7,0,16,48,112,0,0,768,0,2048,6144,14336,32767]) (.n .z (.n .z .z)))))))))=qgi OF gg eS eX OG:=by kernel_rfl
theorem qgm:ai RO Tryz.prog 129 Nu:=bJ (qgl _ _ _ _ _) (ae qe6 qe8 <| ae qfb qfd <| ae TI TJ <| ae TK TL <| ae qgf qgh <| aE) Tryz.func129 (by kernel_rfl)
def qgn:Sm O:=fun xs h=>
 bif Nat.beq xs.length 2 then
 (AV.bD (xs.getD 0 .u)).bind fun p0=>
 aq xs 1 fun n1=>
 ((bif ((Option.isNone p0) == false) then
 some ([(.b (decide (n1<0)))],h)
 else some ([(.b true)],h)):Option (List AV × AH O)).bind fun r2=>
 (AV.aZ (r2.1.getD 0 .u)).bind fun b3=>
 (bif b3 then
 some ((.i .i64 1),r2.2)
 else Option.bind p0 fun q4=>
 aj r2.2 q4.1 (q4.2+4) fun n6=>
 (bif (decide (n1 > n6)) then
 some ((.i .i64 4),r2.2)
 else Option.bind p0 fun q7=>
 aj r2.2 q7.1 (q7.2+4) fun n9=>
 Option.bind p0 fun kW=>
 (r2.2.st kW.1 (kW.2+4) [(.i .i64 (IntKind.i64.wrap (n9 - n1)))]).bind fun iq=>
 some ((.i .i64 0),iq)))
 else none
def qgo:Sm O:=qgn
theorem qgp:ag Tryz.prog 167:=Tryz.call167
theorem qgq:run (O:=O) Tryz.prog [] Tryz.f167 (.n .z (.n (.n (.n (.g [(2,2,[(11,.one .b)])]) (.n .z (.n .z (.n .z .z)))) .z) (.n .z .z)))=qgn:=by kernel_rfl
theorem qgr:ai RO Tryz.prog 167 qgo:=bJ qgq (aE) Tryz.func167 (by kernel_rfl)
def qgs (lj OJ:Sm O):Sm O:=fun xs h=>
 bif Nat.beq xs.length 2 then
 (AV.bD (xs.getD 0 .u)).bind fun p0=>
 aq xs 1 fun n1=>
 (lj [(.p p0),(.i .i64 n1)] h).bind fun r2=>
 (AV.bD r2.1).bind fun p3=>
 (bif (Option.isNone p3) then
 some ((.i .i64 10),r2.2)
 else Option.bind p0 fun q4=>
 cD r2.2 q4.1 q4.2 fun p6=>
 Option.bind p3 fun q7=>
 aV r2.2 q7.1 q7.2 fun l9=>
 (OJ [(.p p6),(.i .i64 (l9.2:Int))] r2.2).bind fun du=>
 (AV.aX .i64 du.1).bind fun fy=>
 Option.bind p3 fun px=>
 (du.2.st px.1 px.2 [(.sl .nil 0),(.b false)]).bind fun jy=>
 Option.bind p0 fun jx=>
 aj jy jx.1 (jx.2+2) fun iQ=>
 Option.bind p0 fun sD=>
 aj jy sD.1 (sD.2+3) fun fu=>
 Option.bind p0 fun q20=>
 (jy.st q20.1 (q20.2+2) [(.i .i64 (if n1<iQ then n1 else iQ))]).bind fun GU=>
 Option.bind p0 fun TN=>
 (GU.st TN.1 (TN.2+3) [(.i .i64 (IntKind.i64.wrap (fu - 1)))]).bind fun VH=>
 some ((.i .i64 0),VH))
 else none
def qgt:Sm O:=qgs KD qgo
theorem qgu:ag Tryz.prog 126:=Tryz.call126
theorem qgv (lj OJ:Sm O):run (O:=O) Tryz.prog [(124,lj),(167,OJ)] Tryz.f126 (.n .z (.n .z (.n (.n .z (.n .z .z)) (.n (.d [] [0,1,2,3,4,5,6,7,8,9] [0,1,3,7,0,16,48,112,240,511]) (.n .z (.n (.d [] [0,1,2,3,4,5,6,7,8,9,10,11,12,13,14,15,16,17,18] [0,0,0,4,12,28,0,124,0,256,768,1792,3840,4093,12285,28669,65535,131071,262143]) .z))))))=qgs lj OJ:=by kernel_rfl
theorem qgw:ai RO Tryz.prog 126 qgt:=bJ (qgv _ _) (ae qew qey <| ae qgp qgr <| aE) Tryz.func126 (by kernel_rfl)
def qgx (gg eX:Sm O):Sm O:=fun xs h=>
 bif Nat.beq xs.length 2 then
 (AV.bD (xs.getD 0 .u)).bind fun p0=>
 aq xs 1 fun n1=>
 ((bif ((decide (n1<1)) == false) then
 Option.bind p0 fun q2=>
 aj h q2.1 (q2.2+3) fun n4=>
 some ([(.b (decide (n1 > n4)))],h)
 else some ([(.b true)],h)):Option (List AV × AH O)).bind fun r5=>
 (AV.aZ (r5.1.getD 0 .u)).bind fun b6=>
 (bif b6 then
 some ((.aB [(.i .u64 0),(.b false)]),r5.2)
 else Option.bind p0 fun q7=>
 cD r5.2 q7.1 q7.2 fun p9=>
 Option.bind p0 fun kW=>
 aj r5.2 kW.1 (kW.2+1) fun eD=>
 (gg [(.p p0),(.i .i64 n1),(.i .i64 (-1))] r5.2).bind fun fk=>
 (AV.aX .i64 fk.1).bind fun iX=>
 (aT (fk.2.ld q7.1 q7.2) (some (.p p9))).bind fun _=>
 (aT (fk.2.ld kW.1 (kW.2+1)) (some (.i .i64 eD))).bind fun _=>
 (eX [(.p p9),(.i .i64 eD),(.i .i64 iX)] fk.2).bind fun fN=>
 (AV.ay 2 fN.1).bind fun sG=>
 cV sG 0 fun fe=>
 aq sG 1 fun iB=>
 some ((.aB [(.i .u64 fe),(.b true)]),fN.2))
 else none
def UT:Sm O:=qgx Hw yN
theorem qgz:ag Tryz.prog 168:=Tryz.call168
theorem qg0 (gg eX:Sm O):run (O:=O) Tryz.prog [(159,gg),(117,eX)] Tryz.f168 (.n .z (.n (.n (.g [(2,6,[(17,.one .b)])]) (.n .z .z)) (.n (.d [] [0,1,2,3,4,5,6,7,8,9,10,11,12,13,14,15,16] [0,1,3,7,0,16,48,112,0,0,768,2047,4095,8191,8191,16383,65535]) .z)))=qgx gg eX:=by kernel_rfl
theorem qg1:ai RO Tryz.prog 168 UT:=bJ (qg0 _ _) (ae qfb qfd <| ae TK TL <| aE) Tryz.func168 (by kernel_rfl)
def qg2 (qy:Sm O):Sm O:=fun xs h=>
 bif Nat.beq xs.length 2 then
 (AV.bD (xs.getD 0 .u)).bind fun p0=>
 aq xs 1 fun n1=>
 (qy [(.p p0),(.i .i64 n1)] h).bind fun r2=>
 (AV.ay 2 r2.1).bind fun c3=>
 cV c3 0 fun n4=>
 (AV.aZ (c3.getD 1 .u)).bind fun b5=>
 ((bif (b5 == true) then
 some ([(.b (((bG .and .u64 n4 1):Int) == 1))],r2.2)
 else some ([(.b false)],r2.2)):Option (List AV × AH O)).bind fun r6=>
 (AV.aZ (r6.1.getD 0 .u)).bind fun b7=>
 some ((.b b7),r6.2)
 else none
def Xt:Sm O:=qg2 UT
theorem qg4:ag Tryz.prog 172:=Tryz.call172
theorem qg5 (qy:Sm O):run (O:=O) Tryz.prog [(168,qy)] Tryz.f172 (.n .z (.n .z (.n (.g [(1,3,[(18,.one .b)])]) .z)))=qg2 qy:=by kernel_rfl
theorem qg6:ai RO Tryz.prog 172 Xt:=bJ (qg5 _) (ae qgz qg1 <| aE) Tryz.func172 (by kernel_rfl)
def qg7 (zi:Sm O):Sm O:=fun xs h=>
 bif Nat.beq xs.length 3 then
 (AV.bD (xs.getD 0 .u)).bind fun p0=>
 aq xs 1 fun n1=>
 aq xs 2 fun n2=>
 (zi [(.p p0),(.i .i64 n1)] h).bind fun r3=>
 (AV.aZ r3.1).bind fun b4=>
 (bif (!b4) then
 some ((.i .i64 4),r3.2)
 else ((bif ((decide (n2<0)) == false) then
 Option.bind p0 fun q5=>
 aj r3.2 q5.1 (q5.2+2) fun n7=>
 some ([(.b (decide (n2>=n7)))],r3.2)
 else some ([(.b true)],r3.2)):Option (List AV × AH O)).bind fun r8=>
 (AV.aZ (r8.1.getD 0 .u)).bind fun b9=>
 (bif b9 then
 some ((.i .i64 32),r8.2)
 else some ((.i .i64 0),r8.2)))
 else none
def XA:Sm O:=qg7 Xt
theorem qg9:ag Tryz.prog 158:=Tryz.call158
theorem qha (zi:Sm O):run (O:=O) Tryz.prog [(172,zi)] Tryz.f158 (.n .z (.n (.n (.n .z (.n .z (.n (.g [(2,6,[(22,.one .b)])]) (.n .z .z)))) .z) .z))=qg7 zi:=by kernel_rfl
theorem qhb:ai RO Tryz.prog 158 XA:=bJ (qha _) (ae qg4 qg6 <| aE) Tryz.func158 (by kernel_rfl)
def qhc (zj gg eS:Sm O):Sm O:=fun xs h=>
 bif Nat.beq xs.length 4 then
 (AV.bD (xs.getD 0 .u)).bind fun p0=>
 aq xs 1 fun n1=>
 aq xs 2 fun n2=>
 cV xs 3 fun n3=>
 (zj [(.p p0),(.i .i64 n1),(.i .i64 n2)] h).bind fun r4=>
 (AV.aX .i64 r4.1).bind fun n5=>
 (bif ((n5:Int) != 0) then
 some ((.i .i64 n5),r4.2)
 else Option.bind p0 fun q6=>
 cD r4.2 q6.1 q6.2 fun p8=>
 Option.bind p0 fun q9=>
 aj r4.2 q9.1 (q9.2+1) fun fy=>
 (gg [(.p p0),(.i .i64 n1),(.i .i64 n2)] r4.2).bind fun iS=>
 (AV.aX .i64 iS.1).bind fun fc=>
 (aT (iS.2.ld q6.1 q6.2) (some (.p p8))).bind fun _=>
 (aT (iS.2.ld q9.1 (q9.2+1)) (some (.i .i64 fy))).bind fun _=>
 (eS [(.p p8),(.i .i64 fy),(.i .i64 fc),(.i .u64 n3)] iS.2).bind fun kY=>
 (AV.aX .i64 kY.1).bind fun fR=>
 some ((.i .i64 fR),kY.2))
 else none
def Gd:Sm O:=qhc XA Hw yO
theorem qhe:ag Tryz.prog 130:=Tryz.call130
theorem qhf (zj gg eS:Sm O):run (O:=O) Tryz.prog [(158,zj),(159,gg),(141,eS)] Tryz.f130 (.n .z (.n (.n .z (.n .z (.n .z .z))) (.n (.d [] [0,1,2,3,4,5,6,7,8,9,10,12,11,13,14] [0,1,3,7,0,16,48,112,0,0,0,1792,0,8191,16383]) .z)))=qhc zj gg eS:=by kernel_rfl
theorem qhg:ai RO Tryz.prog 130 Gd:=bJ (qhf _ _ _) (ae qg9 qhb <| ae qfb qfd <| ae TI TJ <| aE) Tryz.func130 (by kernel_rfl)
def qhh (qx:Sm O):Sm O:=fun xs h=>
 bif Nat.beq xs.length 3 then
 (AV.bD (xs.getD 0 .u)).bind fun p0=>
 aq xs 1 fun n1=>
 aq xs 2 fun n2=>
 let h3:=h.az 1
 let h4:=h3.put h.next (.cells true 184 [(.p none),(.i .i64 0),(.i .i64 0),(.i .i64 0),(.i .i64 0)])
 Option.bind p0 fun q5=>
 cD h4 q5.1 q5.2 fun p7=>
 Option.bind p0 fun q8=>
 aj h4 q8.1 (q8.2+1) fun eO=>
 (qx [(.p p0)] h4).bind fun eQ=>
 (AV.aX .i64 eQ.1).bind fun eD=>
 (aT (eQ.2.ld q5.1 q5.2) (some (.p p7))).bind fun _=>
 (aT (eQ.2.ld q8.1 (q8.2+1)) (some (.i .i64 eO))).bind fun _=>
 (eQ.2.st (.n h.next) 0 [(.p p7),(.i .i64 eO),(.i .i64 eD),(.i .i64 (IntKind.i64.wrap (n1+1))),(.i .i64 (IntKind.i64.wrap (n2+1)))]).bind fun jy=>
 cD jy (.n h.next) 0 fun GV=>
 aj jy (.n h.next) 1 fun fe=>
 aj jy (.n h.next) 2 fun fu=>
 aj jy (.n h.next) 3 fun lM=>
 aj jy (.n h.next) 4 fun fj=>
 some ((.agg [(.p GV),(.i .i64 fe),(.i .i64 fu),(.i .i64 lM),(.i .i64 fj)]),jy)
 else none
def XE:Sm O:=qhh Qo
theorem qhj:ag Tryz.prog 147:=Tryz.call147
theorem qhk (qx:Sm O):run (O:=O) Tryz.prog [(176,qx)] Tryz.f147 (.n .z (.n (.d [] [0,1,2,3,4,5,6,7,8,10,11,12,13,9,14,15] [0,1,3,7,0,16,48,112,0,256,0,1024,0,4096,16383,32767]) .z))=qhh qx:=by kernel_rfl
theorem qhl:ai RO Tryz.prog 147 XE:=bJ (qhk _) (ae qer qet <| aE) Tryz.func147 (by kernel_rfl)
def qhm (zk:Sm O):Sm O:=fun xs h=>
 bif Nat.beq xs.length 1 then
 (AV.bD (xs.getD 0 .u)).bind fun p0=>
 let h1:=h.az 1
 let h2:=h1.put h.next (.cells true 184 [(.p none),(.i .i64 0),(.i .i64 0),(.i .i64 0),(.i .i64 0)])
 Option.bind p0 fun q3=>
 cD h2 q3.1 (q3.2+1) fun p5=>
 (zk [(.p p5),(.i .i64 2),(.i .i64 3)] h2).bind fun r6=>
 (AV.asAgg 5 r6.1).bind fun c7=>
 (AV.bD (c7.getD 0 .u)).bind fun p8=>
 aq c7 1 fun n9=>
 aq c7 2 fun eO=>
 aq c7 3 fun fy=>
 aq c7 4 fun eD=>
 (r6.2.st (.n h.next) 0 [(.p p8),(.i .i64 n9),(.i .i64 eO),(.i .i64 fy),(.i .i64 eD)]).bind fun jy=>
 cD jy (.n h.next) 0 fun GV=>
 aj jy (.n h.next) 1 fun fe=>
 aj jy (.n h.next) 2 fun fu=>
 aj jy (.n h.next) 3 fun lM=>
 aj jy (.n h.next) 4 fun fj=>
 some ((.agg [(.p GV),(.i .i64 fe),(.i .i64 fu),(.i .i64 lM),(.i .i64 fj)]),jy)
 else none
def NH:Sm O:=qhm XE
theorem qho:ag Tryz.prog 100:=Tryz.call100
theorem qhp (zk:Sm O):run (O:=O) Tryz.prog [(147,zk)] Tryz.f100 (.n .z .z)=qhm zk:=by kernel_rfl
theorem qhq:ai RO Tryz.prog 100 NH:=bJ (qhp _) (ae qhj qhl <| aE) Tryz.func100 (by kernel_rfl)
def qhr:Sm O:=fun xs h=>
 bif Nat.beq xs.length 2 then
 aq xs 0 fun n0=>
 ((bif ((decide (n0>=0)) == true) then
 (AV.kC (xs.getD 1 .u)).bind fun q1=>
 aj h q1.1 (q1.2+2) fun n3=>
 some ([(.b (decide (n0<n3)))],h)
 else some ([(.b false)],h)):Option (List AV × AH O)).bind fun r4=>
 (AV.aZ (r4.1.getD 0 .u)).bind fun b5=>
 some ((.b b5),r4.2)
 else none
def qhs:Sm O:=qhr
theorem qht:ag Tryz.prog 177:=Tryz.call177
theorem qhu:run (O:=O) Tryz.prog [] Tryz.f177 (.n .z (.n (.g [(2,4,[(11,.one .b)])]) .z))=qhr:=by kernel_rfl
theorem qhv:ai RO Tryz.prog 177 qhs:=bJ qhu (aE) Tryz.func177 (by kernel_rfl)
def qhw (Lp:Sm O):Sm O:=fun xs h=>
 bif Nat.beq xs.length 1 then
 (AV.asAgg 5 (xs.getD 0 .u)).bind fun c0=>
 (AV.bD (c0.getD 0 .u)).bind fun p1=>
 aq c0 1 fun n2=>
 aq c0 2 fun n3=>
 aq c0 3 fun n4=>
 aq c0 4 fun n5=>
 let h6:=h.az 1
 let h7:=h6.put h.next (.cells true 184 [(.p p1),(.i .i64 n2),(.i .i64 n3),(.i .i64 n4),(.i .i64 n5)])
 cD h7 (.n h.next) 0 fun p9=>
 ((bif ((!(Option.isNone p9)) == true) then
 aj h7 (.n h.next) 2 fun fy=>
 some ([(.b (decide (fy>=2)))],h7)
 else some ([(.b false)],h7)):Option (List AV × AH O)).bind fun iS=>
 (AV.aZ (iS.1.getD 0 .u)).bind fun OK=>
 ((bif (OK == true) then
 aj iS.2 (.n h.next) 2 fun fR=>
 some ([(.b (decide (fR<=64)))],iS.2)
 else some ([(.b false)],iS.2)):Option (List AV × AH O)).bind fun iO=>
 (AV.aZ (iO.1.getD 0 .u)).bind fun GM=>
 ((bif (GM == true) then
 aj iO.2 (.n h.next) 3 fun fu=>
 (Lp [(.i .i64 fu),(.p (some ((.n h.next),0)))] iO.2).bind fun gA=>
 (AV.aZ gA.1).bind fun Ox=>
 some ([(.b Ox)],gA.2)
 else some ([(.b false)],iO.2)):Option (List AV × AH O)).bind fun fU=>
 (AV.aZ (fU.1.getD 0 .u)).bind fun b23=>
 ((bif (b23 == true) then
 aj fU.2 (.n h.next) 4 fun oZ=>
 (Lp [(.i .i64 oZ),(.p (some ((.n h.next),0)))] fU.2).bind fun lC=>
 (AV.aZ lC.1).bind fun b27=>
 some ([(.b b27)],lC.2)
 else some ([(.b false)],fU.2)):Option (List AV × AH O)).bind fun tG=>
 (AV.aZ (tG.1.getD 0 .u)).bind fun TO=>
 ((bif (TO == true) then
 aj tG.2 (.n h.next) 3 fun we=>
 aj tG.2 (.n h.next) 4 fun BR=>
 some ([(.b ((we:Int) != BR))],tG.2)
 else some ([(.b false)],tG.2)):Option (List AV × AH O)).bind fun Lq=>
 (AV.aZ (Lq.1.getD 0 .u)).bind fun b35=>
 some ((.b b35),Lq.2)
 else none
def UU:Sm O:=qhw qhs
theorem qhy:ag Tryz.prog 148:=Tryz.call148
theorem qhz (Lp:Sm O):run (O:=O) Tryz.prog [(177,Lp)] Tryz.f148 (.n .z (.n .z (.n (.g [(3,3,[(12,.one .b)]),(8,3,[(17,.one .b)]),(13,4,[(23,.one .b)]),(19,4,[(29,.one .b)]),(25,5,[(36,.one .b)])]) .z)))=qhw Lp:=by kernel_rfl
theorem qh0:ai RO Tryz.prog 148 UU:=bJ (qhz _) (ae qht qhv <| aE) Tryz.func148 (by kernel_rfl)
def qh1 (lj:Sm O):Sm O:=fun xs h=>
 bif Nat.beq xs.length 2 then
 (AV.bD (xs.getD 0 .u)).bind fun p0=>
 aq xs 1 fun n1=>
 (lj [(.p p0),(.i .i64 n1)] h).bind fun r2=>
 (AV.bD r2.1).bind fun p3=>
 (bif (Option.isNone p3) then
 some ((.aB [(.i .i64 0),(.i .i64 10)]),r2.2)
 else Option.bind p3 fun q4=>
 aV r2.2 q4.1 q4.2 fun l6=>
 some ((.aB [(.i .i64 (l6.2:Int)),(.i .i64 0)]),r2.2))
 else none
def Vq:Sm O:=qh1 KD
theorem qh3:ag Tryz.prog 74:=Tryz.call74
theorem qh4 (lj:Sm O):run (O:=O) Tryz.prog [(124,lj)] Tryz.f74 (.n .z (.n .z (.n (.n .z (.n .z .z)) .z)))=qh1 lj:=by kernel_rfl
theorem qh5:ai RO Tryz.prog 74 Vq:=bJ (qh4 _) (ae qew qey <| aE) Tryz.func74 (by kernel_rfl)
def qh6 (qz OL:Sm O):Sm O:=fun xs h=>
 bif Nat.beq xs.length 1 then
 (AV.asAgg 5 (xs.getD 0 .u)).bind fun c0=>
 (AV.bD (c0.getD 0 .u)).bind fun p1=>
 aq c0 1 fun n2=>
 aq c0 2 fun n3=>
 aq c0 3 fun n4=>
 aq c0 4 fun n5=>
 let h6:=h.az 1
 let h7:=h6.put h.next (.cells true 184 [(.p p1),(.i .i64 n2),(.i .i64 n3),(.i .i64 n4),(.i .i64 n5)])
 cD h7 (.n h.next) 0 fun p9=>
 aj h7 (.n h.next) 1 fun fy=>
 aj h7 (.n h.next) 2 fun fc=>
 aj h7 (.n h.next) 3 fun fR=>
 aj h7 (.n h.next) 4 fun fe=>
 (qz [(.agg [(.p p9),(.i .i64 fy),(.i .i64 fc),(.i .i64 fR),(.i .i64 fe)])] h7).bind fun iY=>
 (AV.aZ iY.1).bind fun b19=>
 (bif (!b19) then
 some ((.i .i64 0),iY.2)
 else cD iY.2 (.n h.next) 0 fun VL=>
 aj iY.2 (.n h.next) 1 fun fj=>
 (OL [(.p VL),(.i .i64 fj)] iY.2).bind fun kZ=>
 (AV.ay 2 kZ.1).bind fun Z7=>
 aq Z7 0 fun eN=>
 aq Z7 1 fun qK=>
 aj kZ.2 (.n h.next) 2 fun vq=>
 (bif (vq == 0) then
 none
 else some ((.i .i64 (IntKind.i64.wrap (Int.tdiv eN vq))),kZ.2)))
 else none
def qh7:Sm O:=qh6 UU Vq
theorem qh8:ag Tryz.prog 182:=Tryz.call182
theorem qh9 (qz OL:Sm O):run (O:=O) Tryz.prog [(148,qz),(74,OL)] Tryz.f182 (.n .z (.n (.n .z (.n .z .z)) (.n .z .z)))=qh6 qz OL:=by kernel_rfl
theorem qia:ai RO Tryz.prog 182 qh7:=bJ (qh9 _ _) (ae qhy qh0 <| ae qh3 qh5 <| aE) Tryz.func182 (by kernel_rfl)
def qib (qz OM:Sm O):Sm O:=fun xs h=>
 bif Nat.beq xs.length 2 then
 (AV.asAgg 5 (xs.getD 0 .u)).bind fun c0=>
 (AV.bD (c0.getD 0 .u)).bind fun p1=>
 aq c0 1 fun n2=>
 aq c0 2 fun n3=>
 aq c0 3 fun n4=>
 aq c0 4 fun n5=>
 aq xs 1 fun n6=>
 let h7:=h.az 1
 let h8:=h7.put h.next (.cells true 184 [(.p p1),(.i .i64 n2),(.i .i64 n3),(.i .i64 n4),(.i .i64 n5)])
 cD h8 (.n h.next) 0 fun tI=>
 aj h8 (.n h.next) 1 fun eD=>
 aj h8 (.n h.next) 2 fun iX=>
 aj h8 (.n h.next) 3 fun iQ=>
 aj h8 (.n h.next) 4 fun iB=>
 (qz [(.agg [(.p tI),(.i .i64 eD),(.i .i64 iX),(.i .i64 iQ),(.i .i64 iB)])] h8).bind fun gH=>
 (AV.aZ gH.1).bind fun TA=>
 (bif (!TA) then
 some ((.i .i64 1),gH.2)
 else ((bif ((decide (n6<1)) == false) then
 cD gH.2 (.n h.next) 0 fun TP=>
 aj gH.2 (.n h.next) 1 fun nq=>
 aj gH.2 (.n h.next) 2 fun eN=>
 aj gH.2 (.n h.next) 3 fun qw=>
 aj gH.2 (.n h.next) 4 fun nY=>
 (OM [(.agg [(.p TP),(.i .i64 nq),(.i .i64 eN),(.i .i64 qw),(.i .i64 nY)])] gH.2).bind fun r31=>
 (AV.aX .i64 r31.1).bind fun pr=>
 some ([(.b (decide (n6 > pr)))],r31.2)
 else some ([(.b true)],gH.2)):Option (List AV × AH O)).bind fun lK=>
 (AV.aZ (lK.1.getD 0 .u)).bind fun b34=>
 (bif b34 then
 some ((.i .i64 2),lK.2)
 else some ((.i .i64 0),lK.2)))
 else none
def UW:Sm O:=qib UU qh7
theorem qid:ag Tryz.prog 165:=Tryz.call165
theorem qie (qz OM:Sm O):run (O:=O) Tryz.prog [(148,qz),(182,OM)] Tryz.f165 (.n .z (.n (.n (.n .z (.n .z (.n (.g [(2,4,[(17,.one .b)])]) (.n .z .z)))) .z) .z))=qib qz OM:=by kernel_rfl
theorem qif:ai RO Tryz.prog 165 UW:=bJ (qie _ _) (ae qhy qh0 <| ae qh8 qia <| aE) Tryz.func165 (by kernel_rfl)
def qig:Sm O:=fun xs h=>
 bif Nat.beq xs.length 3 then
 (AV.asAgg 5 (xs.getD 0 .u)).bind fun c0=>
 (AV.bD (c0.getD 0 .u)).bind fun p1=>
 aq c0 1 fun n2=>
 aq c0 2 fun n3=>
 aq c0 3 fun n4=>
 aq c0 4 fun n5=>
 aq xs 1 fun n6=>
 aq xs 2 fun n7=>
 let h8:=h.az 1
 let h9:=h8.put h.next (.cells true 184 [(.p p1),(.i .i64 n2),(.i .i64 n3),(.i .i64 n4),(.i .i64 n5)])
 aj h9 (.n h.next) 2 fun fy=>
 let v12:Int:=(IntKind.i64.wrap ((IntKind.i64.wrap (n6 - 1))*fy))
 some ((.i .i64 (IntKind.i64.wrap (v12+n7))),h9)
 else none
def XF:Sm O:=qig
theorem qii:ag Tryz.prog 178:=Tryz.call178
theorem qij:run (O:=O) Tryz.prog [] Tryz.f178 (.n .z .z)=qig:=by kernel_rfl
theorem qik:ai RO Tryz.prog 178 XF:=bJ qij (aE) Tryz.func178 (by kernel_rfl)
def qil (zm eS:Sm O):Sm O:=fun xs h=>
 bif Nat.beq xs.length 4 then
 (AV.asAgg 5 (xs.getD 0 .u)).bind fun c0=>
 (AV.bD (c0.getD 0 .u)).bind fun p1=>
 aq c0 1 fun n2=>
 aq c0 2 fun n3=>
 aq c0 3 fun n4=>
 aq c0 4 fun n5=>
 aq xs 1 fun n6=>
 aq xs 2 fun n7=>
 aq xs 3 fun n8=>
 let h9:=h.az 1
 let ij:=h9.put h.next (.cells true 184 [(.p p1),(.i .i64 n2),(.i .i64 n3),(.i .i64 n4),(.i .i64 n5)])
 cD ij (.n h.next) 0 fun BL=>
 aj ij (.n h.next) 1 fun iX=>
 cD ij (.n h.next) 0 fun vd=>
 aj ij (.n h.next) 1 fun iB=>
 aj ij (.n h.next) 2 fun jU=>
 aj ij (.n h.next) 3 fun iA=>
 aj ij (.n h.next) 4 fun nq=>
 (zm [(.agg [(.p vd),(.i .i64 iB),(.i .i64 jU),(.i .i64 iA),(.i .i64 nq)]),(.i .i64 n6),(.i .i64 n7)] ij).bind fun eJ=>
 (AV.aX .i64 eJ.1).bind fun eN=>
 (aT (eJ.2.ld (.n h.next) 0) (some (.p BL))).bind fun _=>
 (aT (eJ.2.ld (.n h.next) 1) (some (.i .i64 iX))).bind fun _=>
 (eS [(.p BL),(.i .i64 iX),(.i .i64 eN),(.i .u64 (IntKind.u64.wrap n8))] eJ.2).bind fun jR=>
 (AV.aX .i64 jR.1).bind fun qw=>
 some ((.aB []),jR.2)
 else none
def UX:Sm O:=qil XF yO
theorem qin:ag Tryz.prog 149:=Tryz.call149
theorem qio (zm eS:Sm O):run (O:=O) Tryz.prog [(178,zm),(141,eS)] Tryz.f149 (.n .z (.d [] [0,1,2,3,4,5,6,8,9,7,10] [0,1,0,4,0,0,0,112,0,256,1023]))=qil zm eS:=by kernel_rfl
theorem qip:ai RO Tryz.prog 149 UX:=bJ (qio _ _) (ae qii qik <| ae TI TJ <| aE) Tryz.func149 (by kernel_rfl)
def qiq (qA lL:Sm O):Sm O:=fun xs h=>
 bif Nat.beq xs.length 3 then
 (AV.asAgg 5 (xs.getD 0 .u)).bind fun c0=>
 (AV.bD (c0.getD 0 .u)).bind fun p1=>
 aq c0 1 fun n2=>
 aq c0 2 fun n3=>
 aq c0 3 fun n4=>
 aq c0 4 fun n5=>
 (AV.asAgg 3 (xs.getD 1 .u)).bind fun c6=>
 aq c6 0 fun n7=>
 aq c6 1 fun n8=>
 aq c6 2 fun n9=>
 aq xs 2 fun eO=>
 let iq:=h.az 3
 let mS:=iq.put h.next (.cells true 184 [(.p p1),(.i .i64 n2),(.i .i64 n3),(.i .i64 n4),(.i .i64 n5)])
 let jy:=mS.put (h.next+1) (.cells true 155 [(.i .i64 n7),(.i .i64 n8),(.i .i64 n9)])
 let mQ:=jy.put ((h.next+1)+1) (.cells true 155 [(.i .i64 0),(.i .i64 0),(.i .i64 0)])
 cD mQ (.n h.next) 0 fun vd=>
 aj mQ (.n h.next) 1 fun iB=>
 aj mQ (.n h.next) 2 fun jU=>
 aj mQ (.n h.next) 3 fun iA=>
 aj mQ (.n h.next) 4 fun nq=>
 (qA [(.agg [(.p vd),(.i .i64 iB),(.i .i64 jU),(.i .i64 iA),(.i .i64 nq)]),(.i .i64 eO)] mQ).bind fun eJ=>
 (AV.aX .i64 eJ.1).bind fun eN=>
 (bif ((eN:Int) != 0) then
 aj eJ.2 (.n (h.next+1)) 0 fun qw=>
 aj eJ.2 (.n (h.next+1)) 1 fun nY=>
 aj eJ.2 (.n (h.next+1)) 2 fun pr=>
 (eJ.2.st (.n ((h.next+1)+1)) 0 [(.i .i64 qw),(.i .i64 nY),(.i .i64 pr)]).bind fun sU=>
 aj sU (.n ((h.next+1)+1)) 0 fun wg=>
 aj sU (.n ((h.next+1)+1)) 1 fun BO=>
 aj sU (.n ((h.next+1)+1)) 2 fun v9=>
 some ((.aB [(.agg [(.i .i64 wg),(.i .i64 BO),(.i .i64 v9)]),(.i .i64 eN)]),sU)
 else cD eJ.2 (.n h.next) 0 fun VM=>
 aj eJ.2 (.n h.next) 1 fun xM=>
 aj eJ.2 (.n h.next) 2 fun vr=>
 aj eJ.2 (.n h.next) 3 fun Lr=>
 aj eJ.2 (.n h.next) 4 fun sH=>
 aj eJ.2 (.n h.next) 4 fun Fa=>
 aj eJ.2 (.n (h.next+1)) 1 fun Mq=>
 (lL [(.agg [(.p VM),(.i .i64 xM),(.i .i64 vr),(.i .i64 Lr),(.i .i64 sH)]),(.i .i64 eO),(.i .i64 Fa),(.i .i64 Mq)] eJ.2).bind fun zd=>
 (AV.ay 0 zd.1).bind fun Dz=>
 cD zd.2 (.n h.next) 0 fun p57=>
 aj zd.2 (.n h.next) 1 fun GW=>
 aj zd.2 (.n h.next) 2 fun QT=>
 aj zd.2 (.n h.next) 3 fun Q5=>
 aj zd.2 (.n h.next) 4 fun Fb=>
 aj zd.2 (.n h.next) 3 fun HO=>
 (lL [(.agg [(.p p57),(.i .i64 GW),(.i .i64 QT),(.i .i64 Q5),(.i .i64 Fb)]),(.i .i64 eO),(.i .i64 HO),(.i .i64 0)] zd.2).bind fun Fc=>
 (AV.ay 0 Fc.1).bind fun c69=>
 aj Fc.2 (.n (h.next+1)) 2 fun HN=>
 (bif ((HN:Int) == 0) then
 (Fc.2.st (.n ((h.next+1)+1)) 0 [(.i .i64 eO),(.i .i64 eO),(.i .i64 1)]).bind fun ON=>
 aj ON (.n ((h.next+1)+1)) 0 fun GX=>
 aj ON (.n ((h.next+1)+1)) 1 fun Bf=>
 aj ON (.n ((h.next+1)+1)) 2 fun Ls=>
 some ((.aB [(.agg [(.i .i64 GX),(.i .i64 Bf),(.i .i64 Ls)]),(.i .i64 0)]),ON)
 else cD Fc.2 (.n h.next) 0 fun p80=>
 aj Fc.2 (.n h.next) 1 fun TQ=>
 aj Fc.2 (.n h.next) 2 fun Fe=>
 aj Fc.2 (.n h.next) 3 fun TR=>
 aj Fc.2 (.n h.next) 4 fun EY=>
 aj Fc.2 (.n (h.next+1)) 1 fun VN=>
 aj Fc.2 (.n h.next) 3 fun K9=>
 (lL [(.agg [(.p p80),(.i .i64 TQ),(.i .i64 Fe),(.i .i64 TR),(.i .i64 EY)]),(.i .i64 VN),(.i .i64 K9),(.i .i64 eO)] Fc.2).bind fun Q6=>
 (AV.ay 0 Q6.1).bind fun c94=>
 aj Q6.2 (.n (h.next+1)) 0 fun zJ=>
 aj Q6.2 (.n (h.next+1)) 2 fun n98=>
 (Q6.2.st (.n ((h.next+1)+1)) 0 [(.i .i64 zJ),(.i .i64 eO),(.i .i64 (IntKind.i64.wrap (n98+1)))]).bind fun h99=>
 aj h99 (.n ((h.next+1)+1)) 0 fun zn=>
 aj h99 (.n ((h.next+1)+1)) 1 fun Lt=>
 aj h99 (.n ((h.next+1)+1)) 2 fun DA=>
 some ((.aB [(.agg [(.i .i64 zn),(.i .i64 Lt),(.i .i64 DA)]),(.i .i64 0)]),h99)))
 else none
def Sk:Sm O:=qiq UW UX
theorem qis:ag Tryz.prog 132:=Tryz.call132
theorem qit (qA lL:Sm O):run (O:=O) Tryz.prog [(165,qA),(149,lL)] Tryz.f132 (.n .z (.n (.n .z (.n .z (.n .z .z))) (.n .z (.n .z (.n (.n .z (.n .z .z)) (.n .z .z))))))=qiq qA lL:=by kernel_rfl
theorem qiu:ai RO Tryz.prog 132 Sk:=bJ (qit _ _) (ae qid qif <| ae qin qip <| aE) Tryz.func132 (by kernel_rfl)
def qiv (tE zp nK gB gC qB:Sm O):Sm O:=fun xs h=>
 bif Nat.beq xs.length 2 then
 (AV.bD (xs.getD 0 .u)).bind fun p0=>
 aq xs 1 fun n1=>
 (bif (decide (n1<1)) then
 some ((.aB [(.i .i64 0),(.i .i64 1)]),h)
 else Option.bind p0 fun q2=>
 cD h q2.1 q2.2 fun p4=>
 (tE [(.p p4),(.i .i64 n1)] h).bind fun r5=>
 (AV.ay 2 r5.1).bind fun c6=>
 aq c6 0 fun n7=>
 aq c6 1 fun n8=>
 (bif ((n8:Int) != 0) then
 some ((.aB [(.i .i64 0),(.i .i64 n8)]),r5.2)
 else Option.bind p0 fun q9=>
 cD r5.2 q9.1 (q9.2+1) fun HP=>
 (zp [(.p HP)] r5.2).bind fun iS=>
 (AV.ay 2 iS.1).bind fun Q7=>
 aq Q7 0 fun iX=>
 aq Q7 1 fun fR=>
 (bif ((fR:Int) != 0) then
 Option.bind p0 fun QW=>
 cD iS.2 QW.1 QW.2 fun p18=>
 (nK [(.p p18),(.i .i64 n7)] iS.2).bind fun gH=>
 (AV.aX .i64 gH.1).bind fun jU=>
 some ((.aB [(.i .i64 0),(.i .i64 fR)]),gH.2)
 else Option.bind p0 fun Ln=>
 cD iS.2 Ln.1 (Ln.2+1) fun p23=>
 (gB [(.p p23),(.i .i64 iX),(.i .i64 0),(.i .u64 (IntKind.u64.wrap n7))] iS.2).bind fun kZ=>
 (AV.aX .i64 kZ.1).bind fun oZ=>
 Option.bind p0 fun Q1=>
 cD kZ.2 Q1.1 (Q1.2+1) fun p28=>
 (gB [(.p p28),(.i .i64 iX),(.i .i64 1),(.i .u64 (IntKind.u64.wrap n1))] kZ.2).bind fun lB=>
 (AV.aX .i64 lB.1).bind fun nY=>
 Option.bind p0 fun DB=>
 cD lB.2 DB.1 (DB.2+1) fun p33=>
 Option.bind p0 fun oX=>
 gO lB.2 oX.1 (oX.2+8) fun rU=>
 (gB [(.p p33),(.i .i64 iX),(.i .i64 4),(.i .u64 rU)] lB.2).bind fun Mn=>
 (AV.aX .i64 Mn.1).bind fun K8=>
 Option.bind p0 fun xN=>
 aj Mn.2 xN.1 (xN.2+2) fun DC=>
 aj Mn.2 xN.1 ((xN.2+2)+1) fun xM=>
 aj Mn.2 xN.1 (((xN.2+2)+1)+1) fun vr=>
 (gC [(.p p0)] Mn.2).bind fun Q8=>
 (AV.asAgg 5 Q8.1).bind fun GY=>
 (AV.bD (GY.getD 0 .u)).bind fun p48=>
 aq GY 1 fun sH=>
 aq GY 2 fun za=>
 aq GY 3 fun Fa=>
 aq GY 4 fun xB=>
 (aT (Q8.2.ld xN.1 (xN.2+2)) (some (.i .i64 DC))).bind fun _=>
 (aT (Q8.2.ld xN.1 ((xN.2+2)+1)) (some (.i .i64 xM))).bind fun _=>
 (aT (Q8.2.ld xN.1 (((xN.2+2)+1)+1)) (some (.i .i64 vr))).bind fun _=>
 (qB [(.agg [(.p p48),(.i .i64 sH),(.i .i64 za),(.i .i64 Fa),(.i .i64 xB)]),(.agg [(.i .i64 DC),(.i .i64 xM),(.i .i64 vr)]),(.i .i64 iX)] Q8.2).bind fun r53=>
 (AV.ay 2 r53.1).bind fun c54=>
 (AV.asAgg 3 (c54.getD 0 .u)).bind fun Dz=>
 aq Dz 0 fun DD=>
 aq Dz 1 fun GH=>
 aq Dz 2 fun HM=>
 aq c54 1 fun GW=>
 Option.bind p0 fun q60=>
 (r53.2.st q60.1 (q60.2+2) [(.i .i64 DD),(.i .i64 GH),(.i .i64 HM)]).bind fun h61=>
 Option.bind p0 fun q62=>
 aj h61 q62.1 (q62.2+10) fun AL=>
 Option.bind p0 fun q65=>
 (h61.st q65.1 (q65.2+10) [(.i .i64 (IntKind.i64.wrap (AL+n1)))]).bind fun Mr=>
 some ((.aB [(.i .i64 iX),(.i .i64 0)]),Mr))))
 else none
def qiw:Sm O:=qiv AN Nu qgt Gd NH Sk
theorem qix:ag Tryz.prog 88:=Tryz.call88
theorem qiy (tE zp nK gB gC qB:Sm O):run (O:=O) Tryz.prog [(99,tE),(129,zp),(126,nK),(130,gB),(100,gC),(132,qB)] Tryz.f88 (.n .z (.n (.n .z (.n .z .z)) (.n .z (.n (.n .z (.n .z .z)) (.n .z (.n (.n .z (.n (.n .z .z) .z)) (.n .z (.n .z (.n (.d [] [0,1,2,3,4,5,6,7,8,9] [0,1,3,7,0,0,32,96,224,511]) (.n (.d [] [0,1,3,4,5,6,7,2,8,9,10,11,12,13,14] [0,0,2,0,8,24,56,0,254,510,1022,1022,2047,6143,14335]) (.n .z .z)))))))))))=qiv tE zp nK gB gC qB:=by kernel_rfl
theorem qiz:ai RO Tryz.prog 88 qiw:=bJ (qiy _ _ _ _ _ _) (ae ZX ZY <| ae qgk qgm <| ae qgu qgw <| ae qhe qhg <| ae qho qhq <| ae qis qiu <| aE) Tryz.func88 (by kernel_rfl)
def qi0 (zj gg eX:Sm O):Sm O:=fun xs h=>
 bif Nat.beq xs.length 3 then
 (AV.bD (xs.getD 0 .u)).bind fun p0=>
 aq xs 1 fun n1=>
 aq xs 2 fun n2=>
 (zj [(.p p0),(.i .i64 n1),(.i .i64 n2)] h).bind fun r3=>
 (AV.aX .i64 r3.1).bind fun n4=>
 (bif ((n4:Int) != 0) then
 some ((.aB [(.i .u64 0),(.i .i64 n4)]),r3.2)
 else Option.bind p0 fun q5=>
 cD r3.2 q5.1 q5.2 fun p7=>
 Option.bind p0 fun q8=>
 aj r3.2 q8.1 (q8.2+1) fun eO=>
 (gg [(.p p0),(.i .i64 n1),(.i .i64 n2)] r3.2).bind fun eQ=>
 (AV.aX .i64 eQ.1).bind fun eD=>
 (aT (eQ.2.ld q5.1 q5.2) (some (.p p7))).bind fun _=>
 (aT (eQ.2.ld q8.1 (q8.2+1)) (some (.i .i64 eO))).bind fun _=>
 (eX [(.p p7),(.i .i64 eO),(.i .i64 eD)] eQ.2).bind fun fk=>
 (AV.ay 2 fk.1).bind fun GZ=>
 cV GZ 0 fun fR=>
 aq GZ 1 fun iQ=>
 some ((.aB [(.i .u64 fR),(.i .i64 iQ)]),fk.2))
 else none
def BF:Sm O:=qi0 XA Hw yN
theorem TS:ag Tryz.prog 119:=Tryz.call119
theorem qi3 (zj gg eX:Sm O):run (O:=O) Tryz.prog [(158,zj),(159,gg),(117,eX)] Tryz.f119 (.n .z (.n (.n .z (.n .z (.n .z .z))) (.n (.d [] [0,1,2,3,4,5,6,7,8,9,10,11,12,13,14,15,16] [0,1,3,7,0,16,48,112,0,0,0,1792,4095,8191,8191,32767,65535]) .z)))=qi0 zj gg eX:=by kernel_rfl
theorem TT:ai RO Tryz.prog 119 BF:=bJ (qi3 _ _ _) (ae qg9 qhb <| ae qfb qfd <| ae TK TL <| aE) Tryz.func119 (by kernel_rfl)
def qi5 (eF eS:Sm O):Sm O:=fun xs h=>
 bif Nat.beq xs.length 4 then
 (AV.bD (xs.getD 0 .u)).bind fun p0=>
 aq xs 1 fun n1=>
 aq xs 2 fun n2=>
 cV xs 3 fun n3=>
 Option.bind p0 fun q4=>
 cD h q4.1 (q4.2+1) fun p6=>
 (eF [(.p p6),(.i .i64 n1),(.i .i64 0)] h).bind fun r7=>
 (AV.ay 2 r7.1).bind fun c8=>
 cV c8 0 fun n9=>
 aq c8 1 fun eO=>
 (bif ((eO:Int) != 0) then
 some ((.i .i64 eO),r7.2)
 else Option.bind p0 fun sC=>
 cD r7.2 sC.1 sC.2 fun p13=>
 (eS [(.p p13),(.i .i64 (IntKind.i64.wrap n9)),(.i .i64 n2),(.i .u64 n3)] r7.2).bind fun kY=>
 (AV.aX .i64 kY.1).bind fun fR=>
 some ((.i .i64 fR),kY.2))
 else none
def Qw:Sm O:=qi5 BF yO
theorem qi7:ag Tryz.prog 90:=Tryz.call90
theorem qi8 (eF eS:Sm O):run (O:=O) Tryz.prog [(119,eF),(141,eS)] Tryz.f90 (.n .z (.n .z (.n (.n .z (.n .z .z)) .z)))=qi5 eF eS:=by kernel_rfl
theorem qi9:ai RO Tryz.prog 90 Qw:=bJ (qi8 _ _) (ae TS TT <| ae TI TJ <| aE) Tryz.func90 (by kernel_rfl)
def qja:Sm O:=fun xs h=>
 bif Nat.beq xs.length 1 then
 aq xs 0 fun n0=>
 ((bif ((decide (n0<1)) == false) then
 some ([(.b (decide (n0 > 1048576)))],h)
 else some ([(.b true)],h)):Option (List AV × AH O)).bind fun r1=>
 (AV.aZ (r1.1.getD 0 .u)).bind fun b2=>
 (bif b2 then
 some ((.aB [(.i .u64 0),(.i .i64 2)]),r1.2)
 else let v3:Int:=(IntKind.u64.wrap ((IntKind.u64.wrap n0)*2 ^ 1))
 some ((.aB [(.i .u64 v3),(.i .i64 0)]),r1.2))
 else none
def X9:Sm O:=qja
theorem qjc:ag Tryz.prog 91:=Tryz.call91
theorem qjd:run (O:=O) Tryz.prog [] Tryz.f91 (.n .z (.n (.n (.g [(2,2,[(9,.one .b)])]) (.n .z .z)) .z))=qja:=by kernel_rfl
theorem qje:ai RO Tryz.prog 91 X9:=bJ qjd (aE) Tryz.func91 (by kernel_rfl)
def qjf (OL:Sm O):Sm O:=fun xs h=>
 bif Nat.beq xs.length 1 then
 (AV.bD (xs.getD 0 .u)).bind fun p0=>
 Option.bind p0 fun q1=>
 cD h q1.1 q1.2 fun p3=>
 Option.bind p0 fun q4=>
 aj h q4.1 (q4.2+1) fun n6=>
 (OL [(.p p3),(.i .i64 n6)] h).bind fun r7=>
 (AV.ay 2 r7.1).bind fun c8=>
 aq c8 0 fun n9=>
 aq c8 1 fun eO=>
 some ((.i .i64 n9),r7.2)
 else none
def qjg:Sm O:=qjf Vq
theorem qjh:ag Tryz.prog 34:=Tryz.call34
theorem qji (OL:Sm O):run (O:=O) Tryz.prog [(74,OL)] Tryz.f34 (.n .z (.n (.d [] [0,1,2,3,4,5,6,7,8,9,10,11,12,13,14] [0,1,3,7,0,16,48,112,240,511,1023,2047,2047,4095,16383]) .z))=qjf OL:=by kernel_rfl
theorem qjj:ai RO Tryz.prog 34 qjg:=bJ (qji _) (ae qh3 qh5 <| aE) Tryz.func34 (by kernel_rfl)
def qjk (k34:Sm O):Sm O:=fun xs h=>
 bif Nat.beq xs.length 1 then
 (AV.bD (xs.getD 0 .u)).bind fun p0=>
 Option.bind p0 fun q1=>
 aj h q1.1 ((q1.2+1)+1) fun n3=>
 (k34 [(.p p0)] h).bind fun r4=>
 (AV.aX .i64 r4.1).bind fun n5=>
 (aT (r4.2.ld q1.1 ((q1.2+1)+1)) (some (.i .i64 n3))).bind fun _=>
 some ((.i .i64 (IntKind.i64.wrap (n5 - n3))),r4.2)
 else none
def qjl:Sm O:=qjk qjg
theorem qjm:ag Tryz.prog 142:=Tryz.call142
theorem qjn (k34:Sm O):run (O:=O) Tryz.prog [(34,k34)] Tryz.f142 (.n .z (.n (.d [] [0,2,3,4,5,6,1,7,8] [0,1,0,4,12,28,60,127,255]) .z))=qjk k34:=by kernel_rfl
theorem qjo:ai RO Tryz.prog 142 qjl:=bJ (qjn _) (ae qjh qjj <| aE) Tryz.func142 (by kernel_rfl)
def qjp (OO:Sm O):Sm O:=fun xs h=>
 bif Nat.beq xs.length 2 then
 (AV.bD (xs.getD 0 .u)).bind fun p0=>
 aq xs 1 fun n1=>
 (bif (decide (n1<1)) then
 some ((.aB [(.i .i64 0),(.i .i64 1)]),h)
 else (OO [(.p p0)] h).bind fun r2=>
 (AV.aX .i64 r2.1).bind fun n3=>
 (bif (decide (n1 > n3)) then
 some ((.aB [(.i .i64 0),(.i .i64 3)]),r2.2)
 else Option.bind p0 fun q4=>
 aj r2.2 q4.1 ((q4.2+1)+1) fun n6=>
 Option.bind p0 fun q7=>
 aj r2.2 q7.1 ((q7.2+1)+1) fun n9=>
 Option.bind p0 fun kW=>
 (r2.2.st kW.1 ((kW.2+1)+1) [(.i .i64 (IntKind.i64.wrap (n9+n1)))]).bind fun iq=>
 some ((.aB [(.i .i64 n6),(.i .i64 0)]),iq)))
 else none
def X7:Sm O:=qjp qjl
theorem qjr:ag Tryz.prog 92:=Tryz.call92
theorem qjs (OO:Sm O):run (O:=O) Tryz.prog [(142,OO)] Tryz.f92 (.n .z (.n (.n (.n .z (.n .z (.n .z (.n .z .z)))) .z) (.n .z (.n .z .z))))=qjp OO:=by kernel_rfl
theorem qjt:ai RO Tryz.prog 92 X7:=bJ (qjs _) (ae qjm qjo <| aE) Tryz.func92 (by kernel_rfl)
def U9:Sm O:=fun xs h=>
 bif Nat.beq xs.length 3 then
 (AV.asAgg 2 (xs.getD 0 .u)).bind fun c0=>
 aq c0 0 fun n1=>
 aq c0 1 fun n2=>
 aq xs 1 fun n3=>
 aq xs 2 fun n4=>
 let h5:=h.az 1
 let h6:=h5.put h.next (.cells true 133 [(.i .i64 n1),(.i .i64 n2)])
 ((bif ((decide (n4>=0)) == true) then
 some ([(.b (decide (n3>=0)))],h6)
 else some ([(.b false)],h6)):Option (List AV × AH O)).bind fun r7=>
 (AV.aZ (r7.1.getD 0 .u)).bind fun b8=>
 ((bif (b8 == true) then
 aj r7.2 (.n h.next) 1 fun eO=>
 some ([(.b (decide (n3<=eO)))],r7.2)
 else some ([(.b false)],r7.2)):Option (List AV × AH O)).bind fun eQ=>
 (AV.aZ (eQ.1.getD 0 .u)).bind fun vY=>
 ((bif (vY == true) then
 aj eQ.2 (.n h.next) 1 fun iX=>
 some ([(.b (decide (n4<=(IntKind.i64.wrap (iX - n3)))))],eQ.2)
 else some ([(.b false)],eQ.2)):Option (List AV × AH O)).bind fun fN=>
 (AV.aZ (fN.1.getD 0 .u)).bind fun TU=>
 some ((.b TU),fN.2)
 else none
def Mc:Sm O:=U9
theorem qjw:ag Tryz.prog 143:=Tryz.call143
theorem qjx:run (O:=O) Tryz.prog [] Tryz.f143 (.n .z (.n (.g [(2,2,[(12,.one .b)]),(6,4,[(18,.one .b)]),(12,6,[(26,.one .b)])]) .z))=U9:=by kernel_rfl
theorem qjy:ai RO Tryz.prog 143 Mc:=bJ qjx (aE) Tryz.func143 (by kernel_rfl)
def qjz (qC eS:Sm O):Sm O:=fun xs h=>
 bif Nat.beq xs.length 3 then
 (AV.bD (xs.getD 0 .u)).bind fun p0=>
 aq xs 1 fun n1=>
 cV xs 2 fun n2=>
 Option.bind p0 fun q3=>
 aj h q3.1 (q3.2+1) fun n5=>
 aj h q3.1 ((q3.2+1)+1) fun n7=>
 (qC [(.agg [(.i .i64 n5),(.i .i64 n7)]),(.i .i64 n1),(.i .i64 1)] h).bind fun r8=>
 (AV.aZ r8.1).bind fun b9=>
 (bif (!b9) then
 some ((.i .i64 11),r8.2)
 else Option.bind p0 fun kW=>
 cD r8.2 kW.1 kW.2 fun BL=>
 Option.bind p0 fun mO=>
 aj r8.2 mO.1 (mO.2+1) fun fR=>
 (eS [(.p BL),(.i .i64 fR),(.i .i64 n1),(.i .u64 n2)] r8.2).bind fun iO=>
 (AV.aX .i64 iO.1).bind fun fe=>
 some ((.i .i64 fe),iO.2))
 else none
def U':Sm O:=qjz Mc yO
theorem qj1:ag Tryz.prog 93:=Tryz.call93
theorem qj2 (qC eS:Sm O):run (O:=O) Tryz.prog [(143,qC),(141,eS)] Tryz.f93 (.n .z (.n (.n .z (.n .z .z)) (.n (.d [] [0,1,2,3,4,5,6,7,8,9,10,11,12] [0,1,3,7,0,16,48,112,240,0,0,2047,4095]) .z)))=qjz qC eS:=by kernel_rfl
theorem qj3:ai RO Tryz.prog 93 U':=bJ (qj2 _ _) (ae qjw qjy <| ae TI TJ <| aE) Tryz.func93 (by kernel_rfl)
def qj4:Sm O:=fun xs h=>
 bif Nat.beq xs.length 1 then
 aq xs 0 fun n0=>
 ((bif ((decide (n0<0)) == false) then
 some ([(.b (decide (n0>=4194304)))],h)
 else some ([(.b true)],h)):Option (List AV × AH O)).bind fun r1=>
 (AV.aZ (r1.1.getD 0 .u)).bind fun b2=>
 (bif b2 then
 some ((.aB [(.i .u64 0),(.i .i64 2)]),r1.2)
 else let v3:Int:=(IntKind.u64.wrap ((IntKind.u64.wrap n0)*2 ^ 1))
 some ((.aB [(.i .u64 (bG .or .u64 v3 1)),(.i .i64 0)]),r1.2))
 else none
def SE:Sm O:=qj4
theorem qj6:ag Tryz.prog 65:=Tryz.call65
theorem qj7:run (O:=O) Tryz.prog [] Tryz.f65 (.n .z (.n (.n (.g [(2,2,[(9,.one .b)])]) (.n .z .z)) .z))=qj4:=by kernel_rfl
theorem qj8:ai RO Tryz.prog 65 SE:=bJ qj7 (aE) Tryz.func65 (by kernel_rfl)
def qj9 (k86 Ff xK k88 Fg OP OQ Fh xO:Sm O):Sm O:=fun xs h=>
 bif Nat.beq xs.length 3 then
 (AV.bD (xs.getD 0 .u)).bind fun p0=>
 (AV.asAgg 2 (xs.getD 1 .u)).bind fun c1=>
 aq c1 0 fun n2=>
 aq c1 1 fun n3=>
 aq xs 2 fun n4=>
 let h5:=h.az 1
 let h6:=h5.put h.next (.cells true 37 [(.i .i64 n2),(.i .i64 n3)])
 let h7:=h6.az 1
 aj h7 (.n h.next) 0 fun n9=>
 aj h7 (.n h.next) 1 fun fy=>
 aj h7 (.n h.next) 0 fun fc=>
 aj h7 (.n h.next) 1 fun fR=>
 Option.bind p0 fun QW=>
 aj h7 QW.1 (QW.2+3) fun iB=>
 (k86 [(.agg [(.i .i64 fc),(.i .i64 fR)]),(.i .i64 iB)] h7).bind fun gH=>
 (AV.aZ gH.1).bind fun TA=>
 (aT (gH.2.ld (.n h.next) 0) (some (.i .i64 n9))).bind fun _=>
 (aT (gH.2.ld (.n h.next) 1) (some (.i .i64 fy))).bind fun _=>
 let GU:=gH.2.put h6.next (.cells true 39 [(.i .i64 0),(.i .i64 0),(.i .i64 0),(.i .i64 0),(.b false)])
 (GU.st (.n h6.next) 0 [(.i .i64 n9),(.i .i64 fy),(.i .i64 n4),(.i .i64 0),(.b TA)]).bind fun G0=>
 aj G0 (.n h6.next) 0 fun nq=>
 aj G0 (.n h6.next) 1 fun eN=>
 aj G0 (.n h6.next) 2 fun qw=>
 aj G0 (.n h6.next) 3 fun nY=>
 (G0.ld (.n h6.next) 4).bind fun w31=>
 (AV.aZ w31).bind fun b32=>
 (Ff [(.agg [(.i .i64 nq),(.i .i64 eN),(.i .i64 qw),(.i .i64 nY),(.b b32)])] G0).bind fun lK=>
 (AV.ay 2 lK.1).bind fun c34=>
 cV c34 0 fun wg=>
 aq c34 1 fun rU=>
 (bif ((rU:Int) != 0) then
 some ((.aB [(.i .u64 0),(.i .i64 rU)]),lK.2)
 else (lK.2.ld (.n h6.next) 4).bind fun w37=>
 (AV.aZ w37).bind fun TW=>
 (bif TW then
 Option.bind p0 fun xN=>
 cD lK.2 xN.1 ((xN.2+1)+1) fun VM=>
 aj lK.2 (.n h6.next) 0 fun xM=>
 aj lK.2 (.n h6.next) 1 fun vr=>
 aj lK.2 (.n h6.next) 2 fun Lr=>
 aj lK.2 (.n h6.next) 3 fun sH=>
 (lK.2.ld (.n h6.next) 4).bind fun w50=>
 (AV.aZ w50).bind fun b51=>
 (xK [(.agg [(.i .i64 xM),(.i .i64 vr),(.i .i64 Lr),(.i .i64 sH),(.b b51)])] lK.2).bind fun r52=>
 (AV.aX .i64 r52.1).bind fun Mq=>
 (aT (r52.2.ld xN.1 ((xN.2+1)+1)) (some (.p VM))).bind fun _=>
 (k88 [(.p VM),(.i .i64 Mq)] r52.2).bind fun zd=>
 (AV.ay 2 zd.1).bind fun Dz=>
 aq Dz 0 fun DD=>
 aq Dz 1 fun GH=>
 (bif ((GH:Int) != 0) then
 some ((.aB [(.i .u64 0),(.i .i64 GH)]),zd.2)
 else Option.bind p0 fun q58=>
 cD zd.2 q58.1 ((q58.2+1)+1) fun p60=>
 (Fg [(.p p60),(.i .i64 DD),(.i .i64 0),(.i .u64 wg)] zd.2).bind fun ve=>
 (AV.aX .i64 ve.1).bind fun OH=>
 (OP [(.i .i64 DD)] ve.2).bind fun r63=>
 (AV.ay 2 r63.1).bind fun c64=>
 cV c64 0 fun Fb=>
 aq c64 1 fun xP=>
 some ((.aB [(.i .u64 Fb),(.i .i64 xP)]),r63.2))
 else Option.bind p0 fun q67=>
 cD lK.2 q67.1 (q67.2+1) fun p69=>
 aj lK.2 (.n h6.next) 0 fun HN=>
 aj lK.2 (.n h6.next) 1 fun TM=>
 aj lK.2 (.n h6.next) 2 fun VK=>
 aj lK.2 (.n h6.next) 3 fun Fi=>
 (lK.2.ld (.n h6.next) 4).bind fun w78=>
 (AV.aZ w78).bind fun b79=>
 (xK [(.agg [(.i .i64 HN),(.i .i64 TM),(.i .i64 VK),(.i .i64 Fi),(.b b79)])] lK.2).bind fun G3=>
 (AV.aX .i64 G3.1).bind fun QV=>
 (aT (G3.2.ld q67.1 (q67.2+1)) (some (.p p69))).bind fun _=>
 (OQ [(.p p69),(.i .i64 QV)] G3.2).bind fun r82=>
 (AV.ay 2 r82.1).bind fun c83=>
 aq c83 0 fun Fe=>
 aq c83 1 fun Bj=>
 (bif ((Bj:Int) != 0) then
 some ((.aB [(.i .u64 0),(.i .i64 Bj)]),r82.2)
 else Option.bind p0 fun Q9=>
 cD r82.2 Q9.1 (Q9.2+1) fun p88=>
 (Fh [(.p p88),(.i .i64 Fe),(.i .u64 wg)] r82.2).bind fun r89=>
 (AV.aX .i64 r89.1).bind fun VN=>
 (xO [(.i .i64 Fe)] r89.2).bind fun r91=>
 (AV.ay 2 r91.1).bind fun c92=>
 cV c92 0 fun OR=>
 aq c92 1 fun n94=>
 some ((.aB [(.i .u64 OR),(.i .i64 n94)]),r91.2))))
 else none
def Nb:Sm O:=qj9 qde U3 SF qiw Qw X9 X7 U' SE
theorem qkb:ag Tryz.prog 46:=Tryz.call46
theorem qkc (k86 Ff xK k88 Fg OP OQ Fh xO:Sm O):run (O:=O) Tryz.prog [(86,k86),(87,Ff),(89,xK),(88,k88),(90,Fg),(91,OP),(92,OQ),(93,Fh),(65,xO)] Tryz.f46 (.n .z (.n (.d [] [0,1,2,3,4,5,6,7,8,9,10] [0,0,0,0,8,24,56,124,255,0,1023]) (.n .z (.n (.n .z (.n .z .z)) (.n (.n .z (.n (.n (.d [] [0,1,2,3,4,5,6,7,8,9,10,11,12] [0,1,3,7,15,0,32,127,255,511,511,1023,4095]) (.n (.n .z (.n .z .z)) (.n .z .z))) .z)) (.n (.d [] [0,1,2,3,4,5,6,7,8,9,10,11,12] [0,1,3,7,15,0,32,127,255,511,511,1023,4095]) (.n (.n .z (.n .z .z)) (.n .z .z))))))))=qj9 k86 Ff xK k88 Fg OP OQ Fh xO:=by kernel_rfl
theorem qkd:ai RO Tryz.prog 46 Nb:=bJ (qkc _ _ _ _ _ _ _ _ _) (ae qdf qdh <| ae qem qeo <| ae qc5 qc7 <| ae qix qiz <| ae qi7 qi9 <| ae qjc qje <| ae qjr qjt <| ae qj1 qj3 <| ae qj6 qj8 <| aE) Tryz.func46 (by kernel_rfl)
def qke:Sm O:=fun xs h=>
 bif Nat.beq xs.length 1 then
 (AV.asAgg 2 (xs.getD 0 .u)).bind fun c0=>
 aq c0 0 fun n1=>
 aq c0 1 fun n2=>
 let h3:=h.az 1
 let h4:=h3.put h.next (.cells true 37 [(.i .i64 n1),(.i .i64 n2)])
 aj h4 (.n h.next) 0 fun n6=>
 ((bif ((decide (n6>=0)) == true) then
 aj h4 (.n h.next) 0 fun n8=>
 some ([(.b (decide (n8<4096)))],h4)
 else some ([(.b false)],h4)):Option (List AV × AH O)).bind fun r9=>
 (AV.aZ (r9.1.getD 0 .u)).bind fun GN=>
 ((bif (GN == true) then
 aj r9.2 (.n h.next) 1 fun eD=>
 some ([(.b (decide (eD>=0)))],r9.2)
 else some ([(.b false)],r9.2)):Option (List AV × AH O)).bind fun fk=>
 (AV.aZ (fk.1.getD 0 .u)).bind fun TG=>
 ((bif (TG == true) then
 aj fk.2 (.n h.next) 1 fun iQ=>
 some ([(.b (decide (iQ<4096)))],fk.2)
 else some ([(.b false)],fk.2)):Option (List AV × AH O)).bind fun dZ=>
 (AV.aZ (dZ.1.getD 0 .u)).bind fun Dv=>
 some ((.b Dv),dZ.2)
 else none
def qkf:Sm O:=qke
theorem qkg:ag Tryz.prog 144:=Tryz.call144
theorem qkh:run (O:=O) Tryz.prog [] Tryz.f144 (.n .z (.n (.g [(3,3,[(10,.one .b)]),(8,3,[(15,.one .b)]),(13,3,[(20,.one .b)])]) .z))=qke:=by kernel_rfl
theorem qki:ai RO Tryz.prog 144 qkf:=bJ qkh (aE) Tryz.func144 (by kernel_rfl)
def qkj (OS:Sm O):Sm O:=fun xs h=>
 bif Nat.beq xs.length 1 then
 (AV.asAgg 2 (xs.getD 0 .u)).bind fun c0=>
 aq c0 0 fun n1=>
 aq c0 1 fun n2=>
 let h3:=h.az 1
 let h4:=h3.put h.next (.cells true 37 [(.i .i64 n1),(.i .i64 n2)])
 aj h4 (.n h.next) 0 fun n6=>
 aj h4 (.n h.next) 1 fun n8=>
 (OS [(.agg [(.i .i64 n6),(.i .i64 n8)])] h4).bind fun r9=>
 (AV.aZ r9.1).bind fun GN=>
 (bif (!GN) then
 some ((.i .i64 0),r9.2)
 else aj r9.2 (.n h.next) 0 fun eD=>
 aj r9.2 (.n h.next) 1 fun iX=>
 let Zo:Int:=(IntKind.i64.wrap ((IntKind.i64.wrap (1+eD))+iX))
 some ((.i .i64 Zo),r9.2))
 else none
def S0:Sm O:=qkj qkf
theorem qkl:ag Tryz.prog 94:=Tryz.call94
theorem qkm (OS:Sm O):run (O:=O) Tryz.prog [(144,OS)] Tryz.f94 (.n .z (.n (.n .z (.n .z .z)) .z))=qkj OS:=by kernel_rfl
theorem qkn:ai RO Tryz.prog 94 S0:=bJ (qkm _) (ae qkg qki <| aE) Tryz.func94 (by kernel_rfl)
def qko:Sm O:=fun xs h=>
 bif Nat.beq xs.length 1 then
 (AV.asAgg 5 (xs.getD 0 .u)).bind fun c0=>
 aq c0 0 fun n1=>
 aq c0 1 fun n2=>
 aq c0 2 fun n3=>
 aq c0 3 fun n4=>
 (AV.aZ (c0.getD 4 .u)).bind fun b5=>
 let h6:=h.az 1
 let h7:=h6.put h.next (.cells true 39 [(.i .i64 n1),(.i .i64 n2),(.i .i64 n3),(.i .i64 n4),(.b b5)])
 aj h7 (.n h.next) 0 fun n9=>
 aj h7 (.n h.next) 1 fun fy=>
 ((bif ((decide (n9<0)) == false) then
 some ([(.b (decide (n9 > 4095)))],h7)
 else some ([(.b true)],h7)):Option (List AV × AH O)).bind fun iS=>
 (AV.aZ (iS.1.getD 0 .u)).bind fun OK=>
 ((bif (OK == false) then
 some ([(.b (decide (fy<0)))],iS.2)
 else some ([(.b true)],iS.2)):Option (List AV × AH O)).bind fun kY=>
 (AV.aZ (kY.1.getD 0 .u)).bind fun TF=>
 ((bif (TF == false) then
 some ([(.b (decide (fy > 4095)))],kY.2)
 else some ([(.b true)],kY.2)):Option (List AV × AH O)).bind fun iO=>
 (AV.aZ (iO.1.getD 0 .u)).bind fun GM=>
 (bif GM then
 some ((.i .i64 20),iO.2)
 else aj iO.2 (.n h.next) 2 fun fu=>
 ((bif ((decide (fu<0)) == false) then
 aj iO.2 (.n h.next) 2 fun lM=>
 some ([(.b (decide (lM > 31)))],iO.2)
 else some ([(.b true)],iO.2)):Option (List AV × AH O)).bind fun fU=>
 (AV.aZ (fU.1.getD 0 .u)).bind fun b23=>
 (bif b23 then
 some ((.i .i64 21),fU.2)
 else aj fU.2 (.n h.next) 3 fun oZ=>
 ((bif ((decide (oZ<0)) == false) then
 aj fU.2 (.n h.next) 3 fun qK=>
 some ([(.b (decide (qK > 7)))],fU.2)
 else some ([(.b true)],fU.2)):Option (List AV × AH O)).bind fun tG=>
 (AV.aZ (tG.1.getD 0 .u)).bind fun TO=>
 (bif TO then
 some ((.i .i64 2),tG.2)
 else some ((.i .i64 0),tG.2))))
 else none
def SZ:Sm O:=qko
theorem qkq:ag Tryz.prog 95:=Tryz.call95
theorem qkr:run (O:=O) Tryz.prog [] Tryz.f95 (.n .z (.n (.d [] [0,1,2,3,4,5,6,7] [0,1,3,0,8,24,7,127]) (.n (.n (.g [(2,2,[(16,.one .b)]),(6,2,[(20,.one .b)]),(10,2,[(24,.one .b)])]) (.n .z .z)) (.n (.n (.g [(3,3,[(32,.one .b)])]) (.n .z .z)) (.n (.n (.g [(3,3,[(40,.one .b)])]) (.n .z .z)) .z)))))=qko:=by kernel_rfl
theorem qks:ai RO Tryz.prog 95 SZ:=bJ qkr (aE) Tryz.func95 (by kernel_rfl)
def Y7 (k94 k95:Sm O):Sm O:=fun xs h=>
 bif Nat.beq xs.length 3 then
 (AV.asAgg 5 (xs.getD 0 .u)).bind fun c0=>
 aq c0 0 fun n1=>
 aq c0 1 fun n2=>
 aq c0 2 fun n3=>
 aq c0 3 fun n4=>
 dx c0 4 fun l5=>
 (AV.asAgg 2 (xs.getD 1 .u)).bind fun c6=>
 aq c6 0 fun n7=>
 aq c6 1 fun n8=>
 aq xs 2 fun n9=>
 let ij:=h.az 3
 let iq:=ij.put h.next (.cells true 105 [(.i .i64 n1),(.i .i64 n2),(.i .i64 n3),(.i .i64 n4),(.sl l5.1 l5.2)])
 let mS:=iq.put (h.next+1) (.cells true 37 [(.i .i64 n7),(.i .i64 n8)])
 let jy:=mS.put ((h.next+1)+1) (.cells true 105 [(.i .i64 0),(.i .i64 0),(.i .i64 0),(.i .i64 0),(.sl .nil 0)])
 aj jy (.n (h.next+1)) 0 fun fR=>
 aj jy (.n (h.next+1)) 1 fun fe=>
 (k94 [(.agg [(.i .i64 fR),(.i .i64 fe)])] jy).bind fun iY=>
 (AV.aX .i64 iY.1).bind fun fu=>
 let xI:=iY.2.az 1
 aj xI (.n (h.next+1)) 0 fun iA=>
 aj xI (.n (h.next+1)) 1 fun nq=>
 aj xI (.n h.next) 0 fun eN=>
 let zg:=xI.put iY.2.next (.cells true 39 [(.i .i64 0),(.i .i64 0),(.i .i64 0),(.i .i64 0),(.b false)])
 (zg.st (.n iY.2.next) 0 [(.i .i64 iA),(.i .i64 nq),(.i .i64 n9),(.i .i64 0),(.b (decide (fu > eN)))]).bind fun Bi=>
 aj Bi (.n iY.2.next) 0 fun nY=>
 aj Bi (.n iY.2.next) 1 fun pr=>
 aj Bi (.n iY.2.next) 2 fun tJ=>
 aj Bi (.n iY.2.next) 3 fun rU=>
 (Bi.ld (.n iY.2.next) 4).bind fun w37=>
 (AV.aZ w37).bind fun TW=>
 (k95 [(.agg [(.i .i64 nY),(.i .i64 pr),(.i .i64 tJ),(.i .i64 rU),(.b TW)])] Bi).bind fun jS=>
 (AV.aX .i64 jS.1).bind fun QR=>
 (bif ((QR:Int) != 0) then
 aj jS.2 (.n h.next) 0 fun EX=>
 aj jS.2 (.n h.next) 1 fun Ms=>
 aj jS.2 (.n h.next) 2 fun Ll=>
 aj jS.2 (.n h.next) 3 fun Dy=>
 aV jS.2 (.n h.next) 4 fun Lu=>
 (jS.2.st (.n ((h.next+1)+1)) 0 [(.i .i64 EX),(.i .i64 Ms),(.i .i64 Ll),(.i .i64 Dy),(.sl Lu.1 Lu.2)]).bind fun GG=>
 aj GG (.n ((h.next+1)+1)) 0 fun Mq=>
 aj GG (.n ((h.next+1)+1)) 1 fun Lm=>
 aj GG (.n ((h.next+1)+1)) 2 fun GH=>
 aj GG (.n ((h.next+1)+1)) 3 fun GW=>
 aV GG (.n ((h.next+1)+1)) 4 fun l61=>
 some ((.aB [(.agg [(.i .i64 Mq),(.i .i64 Lm),(.i .i64 GH),(.i .i64 GW),(.sl l61.1 l61.2)]),(.i .u64 0),(.i .i64 QR)]),GG)
 else let Ml:=jS.2.az 3
 aj Ml (.n iY.2.next) 0 fun AL=>
 aj Ml (.n iY.2.next) 1 fun xP=>
 aj Ml (.n iY.2.next) 2 fun Kv=>
 aj Ml (.n iY.2.next) 3 fun VO=>
 (Ml.ld (.n iY.2.next) 4).bind fun w71=>
 (AV.aZ w71).bind fun b72=>
 aj Ml (.n (h.next+1)) 0 fun GX=>
 aj Ml (.n (h.next+1)) 1 fun Bf=>
 (bif ((((decide ((0:Int)<=GX)) && (decide (GX<=GX))) && (decide ((GX*8)<=140737488355328))) && (decide (GX<=140737488355328))) then
 let h77:=Ml.put jS.2.next (.cells true 33 ((List.replicate GX.toNat [(.i .u64 0)]).flatten))
 (bif ((((decide ((0:Int)<=Bf)) && (decide (Bf<=Bf))) && (decide ((Bf*8)<=140737488355328))) && (decide (Bf<=140737488355328))) then
 let h78:=h77.put (jS.2.next+1) (.cells true 33 ((List.replicate Bf.toNat [(.i .u64 0)]).flatten))
 let h79:=h78.put ((jS.2.next+1)+1) (.cells true 42 [(.i .i64 0),(.i .i64 0),(.i .i64 0),(.i .i64 0),(.b false),(.sl .nil 0),(.sl .nil 0),(.i .u64 0)])
 (h79.st (.n ((jS.2.next+1)+1)) 0 [(.i .i64 AL),(.i .i64 xP),(.i .i64 Kv),(.i .i64 VO),(.b b72),(.sl (.loc (.n jS.2.next) 0 1) GX.toNat),(.sl (.loc (.n (jS.2.next+1)) 0 1) Bf.toNat),(.i .u64 0)]).bind fun G4=>
 (G4.ld (.n iY.2.next) 4).bind fun w81=>
 (AV.aZ w81).bind fun b82=>
 cv (S:=List AV × AH O) (R:=(AV × AH O)) ((bif b82 then
 aj G4 (.n h.next) 3 fun Fe=>
 (G4.st (.n h.next) 3 [(.i .i64 (IntKind.i64.wrap (Fe+1)))]).bind fun h85=>
 aj h85 (.n h.next) 3 fun Lv=>
 (h85.st (.n ((jS.2.next+1)+1)) 7 [(.i .u64 (IntKind.u64.wrap (2*(IntKind.u64.wrap Lv))))]).bind fun h88=>
 some (Sum.inl ([],h88))
 else aj G4 (.n h.next) 1 fun VN=>
 aj G4 (.n h.next) 2 fun K9=>
 (bif (decide (fu > (IntKind.i64.wrap (VN - K9)))) then
 aj G4 (.n h.next) 0 fun n94=>
 aj G4 (.n h.next) 1 fun zJ=>
 aj G4 (.n h.next) 2 fun n98=>
 aj G4 (.n h.next) 3 fun DE=>
 aV G4 (.n h.next) 4 fun aaq=>
 (G4.st (.n ((h.next+1)+1)) 0 [(.i .i64 n94),(.i .i64 zJ),(.i .i64 n98),(.i .i64 DE),(.sl aaq.1 aaq.2)]).bind fun G5=>
 (((G5.ld (.n ((h.next+1)+1)) 0).bind fun ak2=>
 (AV.aX .i64 ak2).bind fun DA=>
 aj G5 (.n ((h.next+1)+1)) 1 fun Lw=>
 aj G5 (.n ((h.next+1)+1)) 2 fun TX=>
 aj G5 (.n ((h.next+1)+1)) 3 fun zq=>
 aV G5 (.n ((h.next+1)+1)) 4 fun Bk=>
 some ((.aB [(.agg [(.i .i64 DA),(.i .i64 Lw),(.i .i64 TX),(.i .i64 zq),(.sl Bk.1 Bk.2)]),(.i .u64 0),(.i .i64 3)]),G5):Option (AV × AH O)).map Sum.inr)
 else aj G4 (.n h.next) 2 fun Lx=>
 let ak3:Int:=(IntKind.u64.wrap ((IntKind.u64.wrap (2*(IntKind.u64.wrap Lx)))+1))
 (G4.st (.n ((jS.2.next+1)+1)) 7 [(.i .u64 ak3)]).bind fun aar=>
 aj aar (.n h.next) 2 fun TY=>
 (aar.st (.n h.next) 2 [(.i .i64 (IntKind.i64.wrap (TY+fu)))]).bind fun ak4=>
 some (Sum.inl ([],ak4))))) fun DF=>
 let wi:=DF.2.az 4
 aV wi (.n h.next) 4 fun OT=>
 aj wi (.n ((jS.2.next+1)+1)) 0 fun OU=>
 aj wi (.n ((jS.2.next+1)+1)) 1 fun aas=>
 aj wi (.n ((jS.2.next+1)+1)) 2 fun On=>
 aj wi (.n ((jS.2.next+1)+1)) 3 fun OW=>
 (wi.ld (.n ((jS.2.next+1)+1)) 4).bind fun ak5=>
 (AV.aZ ak5).bind fun aat=>
 aV wi (.n ((jS.2.next+1)+1)) 5 fun OX=>
 aV wi (.n ((jS.2.next+1)+1)) 6 fun OY=>
 gO wi (.n ((jS.2.next+1)+1)) 7 fun aau=>
 let vf:=wi.put DF.2.next (.cells true 42 [])
 (vf.bT OT.1 OT.2 8).bind fun TZ=>
 (bif (Nat.ble ((0+OT.2)*97) 35184372088832) then
 (vf.cF (DF.2.next+1) 42 8 (.loc (.n DF.2.next) 0 8) 0 OT.2 TZ).bind fun wj=>
 (AV.dF wj.1).bind fun G6=>
 (aT (wj.2.ld (.n ((jS.2.next+1)+1)) 0) (some (.i .i64 OU))).bind fun _=>
 (aT (wj.2.ld (.n ((jS.2.next+1)+1)) 1) (some (.i .i64 aas))).bind fun _=>
 (aT (wj.2.ld (.n ((jS.2.next+1)+1)) 2) (some (.i .i64 On))).bind fun _=>
 (aT (wj.2.ld (.n ((jS.2.next+1)+1)) 3) (some (.i .i64 OW))).bind fun _=>
 (aT (wj.2.ld (.n ((jS.2.next+1)+1)) 4) (some (.b aat))).bind fun _=>
 (aT (wj.2.ld (.n ((jS.2.next+1)+1)) 5) (some (.sl OX.1 OX.2))).bind fun _=>
 (aT (wj.2.ld (.n ((jS.2.next+1)+1)) 6) (some (.sl OY.1 OY.2))).bind fun _=>
 (aT (wj.2.ld (.n ((jS.2.next+1)+1)) 7) (some (.i .u64 aau))).bind fun _=>
 let aav:=wj.2.put ((DF.2.next+1)+1) (.cells true 42 [(.i .i64 OU),(.i .i64 aas),(.i .i64 On),(.i .i64 OW),(.b aat),(.sl OX.1 OX.2),(.sl OY.1 OY.2),(.i .u64 aau)])
 (aav.bT (.loc (.n ((DF.2.next+1)+1)) 0 8) 1 8).bind fun T0=>
 (bif (Nat.ble ((G6.2+1)*97) 35184372088832) then
 (aav.cF (((DF.2.next+1)+1)+1) 42 8 G6.1 G6.2 1 T0).bind fun aaw=>
 (AV.dF aaw.1).bind fun aax=>
 (aaw.2.st (.n h.next) 4 [(.sl aax.1 aax.2)]).bind fun sV=>
 aj sV (.n h.next) 0 fun Lg=>
 aj sV (.n h.next) 1 fun ak6=>
 aj sV (.n h.next) 2 fun Ti=>
 aj sV (.n h.next) 3 fun ak7=>
 aV sV (.n h.next) 4 fun Ly=>
 gO sV (.n ((jS.2.next+1)+1)) 7 fun GJ=>
 (sV.st (.n ((h.next+1)+1)) 0 [(.i .i64 Lg),(.i .i64 ak6),(.i .i64 Ti),(.i .i64 ak7),(.sl Ly.1 Ly.2)]).bind fun DH=>
 (aT (DH.ld (.n ((jS.2.next+1)+1)) 7) (some (.i .u64 GJ))).bind fun _=>
 aj DH (.n ((h.next+1)+1)) 0 fun ak8=>
 aj DH (.n ((h.next+1)+1)) 1 fun ak9=>
 aj DH (.n ((h.next+1)+1)) 2 fun ak'=>
 aj DH (.n ((h.next+1)+1)) 3 fun ala=>
 aV DH (.n ((h.next+1)+1)) 4 fun aay=>
 some ((.aB [(.agg [(.i .i64 ak8),(.i .i64 ak9),(.i .i64 ak'),(.i .i64 ala),(.sl aay.1 aay.2)]),(.i .u64 GJ),(.i .i64 0)]),DH)
 else none)
 else none)
 else none)
 else none))
 else none
def Xa:Sm O:=vk (Y7 S0 SZ)
theorem qkv:ag Tryz.prog 47:=Tryz.call47
theorem qkw (k94 k95:Sm O):run (O:=O) Tryz.prog [(94,k94),(95,k95)] Tryz.f47 (.n .z (.n .z (.n .z (.n (.n .z (.n .z (.n .z .z))) (.n (.d [] [0,1,2,4,5,3,6,7,8,9] [0,0,2,6,0,16,48,127,0,511]) (.n (.n .z (.j true [] .z (.n (.n .z (.n .z .z)) .z))) (.n (.d [] [1,2,4,0,3,5,6,7,8] [0,0,2,7,0,16,63,127,255]) (.n (.d [] [0,1,2,3,4,5] [0,0,2,1,15,31]) .z))))))))=Y7 k94 k95:=by kernel_rfl
theorem qkx:ai RO Tryz.prog 47 (Xa):=
   have h:ai RO Tryz.prog 47 (Y7 S0 SZ):=(qkw S0 SZ)▸eH (ae qkl (qkn) <| ae qkq (qks) <| aE) mixed Tryz.func47 (by kernel_rfl) _
   h.vk
def qky:Sm O:=fun xs h=>
 bif Nat.beq xs.length 1 then
 cV xs 0 fun n0=>
 (bif ((n0:Int) == 0) then
 some ((.i .i64 0),h)
 else ((bif ((((bG .and .u64 n0 1):Int) == 1) == true) then
 some ([(.b (decide ((Int.fdiv n0 (2 ^ 1))<4194304)))],h)
 else some ([(.b false)],h)):Option (List AV × AH O)).bind fun r1=>
 (AV.aZ (r1.1.getD 0 .u)).bind fun b2=>
 (bif b2 then
 some ((.i .i64 1),r1.2)
 else ((bif ((((bG .and .u64 n0 1):Int) == 0) == true) then
 some ([(.b (decide ((Int.fdiv n0 (2 ^ 1))<=1048576)))],r1.2)
 else some ([(.b false)],r1.2)):Option (List AV × AH O)).bind fun r3=>
 (AV.aZ (r3.1.getD 0 .u)).bind fun b4=>
 (bif b4 then
 some ((.i .i64 2),r3.2)
 else some ((.i .i64 3),r3.2))))
 else none
def BE:Sm O:=qky
theorem T9:ag Tryz.prog 53:=Tryz.call53
theorem qk1:run (O:=O) Tryz.prog [] Tryz.f53 (.n .z (.n .z (.n (.n (.n .z (.n .z (.n (.g [(3,2,[(16,.one .b)])]) (.n .z (.n (.g [(3,2,[(24,.one .b)])]) (.n .z .z)))))) .z) .z)))=qky:=by kernel_rfl
theorem Ua:ai RO Tryz.prog 53 BE:=bJ qk1 (aE) Tryz.func53 (by kernel_rfl)
def qk3 (nu:Sm O):Sm O:=fun xs h=>
 bif Nat.beq xs.length 1 then
 cV xs 0 fun n0=>
 (nu [(.i .u64 n0)] h).bind fun r1=>
 (AV.aX .i64 r1.1).bind fun n2=>
 ((bif ((n2:Int) == 1) then
 some ([(.b ((n2:Int) == 1))],r1.2)
 else some ([(.b ((n2:Int) == 2))],r1.2)):Option (List AV × AH O)).bind fun r3=>
 (AV.aZ (r3.1.getD 0 .u)).bind fun b4=>
 (bif b4 then
 some ((.i .i64 (IntKind.i64.wrap (Int.fdiv n0 (2 ^ 1)))),r3.2)
 else some ((.i .i64 0),r3.2))
 else none
def Md:Sm O:=qk3 BE
theorem qk5:ag Tryz.prog 63:=Tryz.call63
theorem qk6 (nu:Sm O):run (O:=O) Tryz.prog [(53,nu)] Tryz.f63 (.n .z (.n (.n .z (.n (.n (.n .z (.j false [(5,.one .b)] .z .z)) (.n .z .z)) .z)) .z))=qk3 nu:=by kernel_rfl
theorem qk7:ai RO Tryz.prog 63 Md:=bJ (qk6 _) (ae T9 Ua <| aE) Tryz.func63 (by kernel_rfl)
def qk8 (qC eX:Sm O):Sm O:=fun xs h=>
 bif Nat.beq xs.length 2 then
 (AV.bD (xs.getD 0 .u)).bind fun p0=>
 aq xs 1 fun n1=>
 Option.bind p0 fun q2=>
 aj h q2.1 (q2.2+1) fun n4=>
 aj h q2.1 ((q2.2+1)+1) fun n6=>
 (qC [(.agg [(.i .i64 n4),(.i .i64 n6)]),(.i .i64 n1),(.i .i64 1)] h).bind fun r7=>
 (AV.aZ r7.1).bind fun b8=>
 (bif (!b8) then
 some ((.aB [(.i .u64 0),(.i .i64 11)]),r7.2)
 else Option.bind p0 fun q9=>
 cD r7.2 q9.1 q9.2 fun HP=>
 Option.bind p0 fun px=>
 aj r7.2 px.1 (px.2+1) fun iX=>
 (eX [(.p HP),(.i .i64 iX),(.i .i64 n1)] r7.2).bind fun fN=>
 (AV.ay 2 fN.1).bind fun sG=>
 cV sG 0 fun fe=>
 aq sG 1 fun iB=>
 some ((.aB [(.i .u64 fe),(.i .i64 iB)]),fN.2))
 else none
def qk9:Sm O:=qk8 Mc yN
theorem qla:ag Tryz.prog 109:=Tryz.call109
theorem qlb (qC eX:Sm O):run (O:=O) Tryz.prog [(143,qC),(117,eX)] Tryz.f109 (.n .z (.n (.n .z (.n .z .z)) (.n (.d [] [0,1,2,3,4,5,6,7,8,9,10,11,12,13,14] [0,1,3,7,0,16,48,112,240,0,1023,2047,2047,8191,16383]) .z)))=qk8 qC eX:=by kernel_rfl
theorem qlc:ai RO Tryz.prog 109 qk9:=bJ (qlb _ _) (ae qjw qjy <| ae TK TL <| aE) Tryz.func109 (by kernel_rfl)
def qld (eF eX:Sm O):Sm O:=fun xs h=>
 bif Nat.beq xs.length 3 then
 (AV.bD (xs.getD 0 .u)).bind fun p0=>
 aq xs 1 fun n1=>
 aq xs 2 fun n2=>
 Option.bind p0 fun q3=>
 cD h q3.1 (q3.2+1) fun p5=>
 (eF [(.p p5),(.i .i64 n1),(.i .i64 0)] h).bind fun r6=>
 (AV.ay 2 r6.1).bind fun c7=>
 cV c7 0 fun n8=>
 aq c7 1 fun n9=>
 (bif ((n9:Int) != 0) then
 some ((.aB [(.i .u64 0),(.i .i64 n9)]),r6.2)
 else Option.bind p0 fun kW=>
 cD r6.2 kW.1 kW.2 fun BL=>
 (eX [(.p BL),(.i .i64 (IntKind.i64.wrap n8)),(.i .i64 n2)] r6.2).bind fun fk=>
 (AV.ay 2 fk.1).bind fun GZ=>
 cV GZ 0 fun fR=>
 aq GZ 1 fun iQ=>
 some ((.aB [(.i .u64 fR),(.i .i64 iQ)]),fk.2))
 else none
def Yb:Sm O:=qld BF yN
theorem qlf:ag Tryz.prog 108:=Tryz.call108
theorem qlg (eF eX:Sm O):run (O:=O) Tryz.prog [(119,eF),(117,eX)] Tryz.f108 (.n .z (.n .z (.n (.n .z (.n .z .z)) .z)))=qld eF eX:=by kernel_rfl
theorem qlh:ai RO Tryz.prog 108 Yb:=bJ (qlg _ _) (ae TS TT <| ae TK TL <| aE) Tryz.func108 (by kernel_rfl)
def qli (nu o9 OZ zr:Sm O):Sm O:=fun xs h=>
 bif Nat.beq xs.length 3 then
 (AV.bD (xs.getD 0 .u)).bind fun p0=>
 cV xs 1 fun n1=>
 aq xs 2 fun n2=>
 (nu [(.i .u64 n1)] h).bind fun r3=>
 (AV.aX .i64 r3.1).bind fun n4=>
 (bif ((n4:Int) == 0) then
 some ((.aB [(.i .u64 0),(.i .i64 31)]),r3.2)
 else (bif ((n4:Int) == 1) then
 Option.bind p0 fun q5=>
 cD r3.2 q5.1 (q5.2+1) fun p7=>
 (o9 [(.i .u64 n1)] r3.2).bind fun r8=>
 (AV.aX .i64 r8.1).bind fun n9=>
 (aT (r8.2.ld q5.1 (q5.2+1)) (some (.p p7))).bind fun _=>
 (OZ [(.p p7),(.i .i64 (IntKind.i64.wrap (n9+n2)))] r8.2).bind fun du=>
 (AV.ay 2 du.1).bind fun rW=>
 cV rW 0 fun eD=>
 aq rW 1 fun fc=>
 some ((.aB [(.i .u64 eD),(.i .i64 fc)]),du.2)
 else (bif ((n4:Int) == 2) then
 Option.bind p0 fun jx=>
 cD r3.2 jx.1 ((jx.2+1)+1) fun vd=>
 (o9 [(.i .u64 n1)] r3.2).bind fun dZ=>
 (AV.aX .i64 dZ.1).bind fun iB=>
 (aT (dZ.2.ld jx.1 ((jx.2+1)+1)) (some (.p vd))).bind fun _=>
 (zr [(.p vd),(.i .i64 iB),(.i .i64 n2)] dZ.2).bind fun gH=>
 (AV.ay 2 gH.1).bind fun Bh=>
 cV Bh 0 fun lM=>
 aq Bh 1 fun iA=>
 some ((.aB [(.i .u64 lM),(.i .i64 iA)]),gH.2)
 else some ((.aB [(.i .u64 0),(.i .i64 5)]),r3.2))))
 else none
def Nj:Sm O:=qli BE Md qk9 Yb
theorem qlk:ag Tryz.prog 56:=Tryz.call56
theorem qll (nu o9 OZ zr:Sm O):run (O:=O) Tryz.prog [(53,nu),(63,o9),(109,OZ),(108,zr)] Tryz.f56 (.n .z (.n (.n .z (.n (.n .z (.n .z (.n .z (.n (.n (.d [] [0,1,2,3,4,5,7,6,8,9,10,11,12,13] [0,1,3,7,15,0,32,0,224,511,1023,1023,4095,8191]) .z) (.n .z (.n (.n (.d [] [0,1,2,3,4,5,7,6,8,9,10,11,12] [0,1,3,7,15,0,32,0,255,511,511,2047,4095]) .z) .z)))))) .z)) .z))=qli nu o9 OZ zr:=by kernel_rfl
theorem qlm:ai RO Tryz.prog 56 Nj:=bJ (qll _ _ _ _) (ae T9 Ua <| ae qk5 qk7 <| ae qla qlc <| ae qlf qlh <| aE) Tryz.func56 (by kernel_rfl)
def qln (qv nJ:Sm O):Sm O:=fun xs h=>
 bif Nat.beq xs.length 2 then
 cV xs 0 fun n0=>
 (AV.asAgg 2 (xs.getD 1 .u)).bind fun c1=>
 aq c1 0 fun n2=>
 aq c1 1 fun n3=>
 let h4:=h.az 1
 let h5:=h4.put h.next (.cells true 195 [(.i .i64 n2),(.i .i64 n3)])
 aj h5 (.n h.next) 0 fun n7=>
 aj h5 (.n h.next) 1 fun n9=>
 (qv [(.agg [(.i .i64 n7),(.i .i64 n9)])] h5).bind fun du=>
 (AV.aZ du.1).bind fun GL=>
 (bif (!GL) then
 some ((.i .u64 0),du.2)
 else aj du.2 (.n h.next) 0 fun fc=>
 aj du.2 (.n h.next) 1 fun fR=>
 aj du.2 (.n h.next) 0 fun fe=>
 (nJ [(.agg [(.i .i64 fc),(.i .i64 fR)])] du.2).bind fun iY=>
 (AV.aX .u64 iY.1).bind fun fu=>
 (aT (iY.2.ld (.n h.next) 0) (some (.i .i64 fe))).bind fun _=>
 (bif (decide (fe<0)) then
 none
 else let v20:Int:=(Int.fdiv (bG .and .u64 n0 fu) (2 ^ min fe.toNat 64))
 some ((.i .u64 v20),iY.2)))
 else none
def U1:Sm O:=qln UZ U0
theorem qlp:ag Tryz.prog 111:=Tryz.call111
theorem qlq (qv nJ:Sm O):run (O:=O) Tryz.prog [(153,qv),(154,nJ)] Tryz.f111 (.n .z (.n (.n .z (.n .z .z)) (.n (.d [] [0,1,4,5,2,3,6,7] [0,0,2,7,0,16,63,127]) .z)))=qln qv nJ:=by kernel_rfl
theorem qlr:ai RO Tryz.prog 111 U1:=bJ (qlq _ _) (ae qdq qds <| ae qdv qdx <| aE) Tryz.func111 (by kernel_rfl)
def qls (l4:SA × Nat) (vg:Sm O) (n0:Int):List AV × AH O->Option ((List AV × AH O) ⊕ (List AV × AH O)):=(fun r5=>
 (AV.dF (r5.1.getD 0 .u)).bind fun l6=>
 (AV.aX .i64 (r5.1.getD 1 .u)).bind fun n7=>
 (bif (decide (n7<(l4.2:Int))) then
 let h8:=r5.2.az 1
 (bif ((decide ((0:Int)<=n7)) && (decide (n7<(l4.2:Int)))) then
 (SA.ref l4.1).bind fun q9=>
 aj h8 q9.1 (q9.2+(n7.toNat*2)) fun fy=>
 aj h8 q9.1 ((q9.2+(n7.toNat*2))+1) fun fc=>
 let mQ:=h8.put r5.2.next (.cells true 195 [(.i .i64 0),(.i .i64 0)])
 (mQ.st (.n r5.2.next) 0 [(.i .i64 fy),(.i .i64 fc)]).bind fun tF=>
 let vZ:=tF.az 2
 aj vZ (.n r5.2.next) 0 fun iB=>
 aj vZ (.n r5.2.next) 1 fun jU=>
 (vg [(.i .u64 n0),(.agg [(.i .i64 iB),(.i .i64 jU)])] vZ).bind fun tD=>
 (AV.aX .u64 tD.1).bind fun iA=>
 let VH:=tD.2.put tF.next (.cells true 3 [(.i .i64 (IntKind.i64.wrap iA))])
 (VH.bT (.loc (.n tF.next) 0 1) 1 1).bind fun Lz=>
 (bif (Nat.ble ((l6.2+1)*9) 35184372088832) then
 (VH.cF (tF.next+1) 3 1 l6.1 l6.2 1 Lz).bind fun eJ=>
 (AV.dF eJ.1).bind fun LA=>
 some (Sum.inl ([(.sl LA.1 LA.2),(.i .i64 (IntKind.i64.wrap (n7+1)))],eJ.2))
 else none)
 else none)
 else some (Sum.inr ([(.sl l6.1 l6.2)],r5.2))))
def qlt (zh vg Ff:Sm O):Sm O:=fun xs h=>
 bif Nat.beq xs.length 1 then
 cV xs 0 fun n0=>
 let h1:=h.az 1
 let h2:=h1.put h.next (.cells true 39 [(.i .i64 0),(.i .i64 0),(.i .i64 0),(.i .i64 0),(.b false)])
 (zh [] h2).bind fun r3=>
 (AV.dF r3.1).bind fun l4=>
 (bC (S:=List AV × AH O) (T:=List AV × AH O) (qls l4 vg n0) ([(.sl .nil 0),(.i .i64 0)],r3.2)).bind fun jR=>
 (AV.dF (jR.1.getD 0 .u)).bind fun BJ=>
 let Bl:=jR.2.az 1
 (bif (decide ((0:Int)<(BJ.2:Int))) then
 (SA.ref BJ.1).bind fun q30=>
 aj Bl q30.1 q30.2 fun pr=>
 (bif (decide ((1:Int)<(BJ.2:Int))) then
 (SA.ref BJ.1).bind fun q33=>
 aj Bl q33.1 (q33.2+1) fun wg=>
 (bif (decide ((2:Int)<(BJ.2:Int))) then
 (SA.ref BJ.1).bind fun q36=>
 aj Bl q36.1 (q36.2+2) fun K8=>
 (bif (decide ((3:Int)<(BJ.2:Int))) then
 (SA.ref BJ.1).bind fun xN=>
 aj Bl xN.1 (xN.2+3) fun DC=>
 (bif (decide ((4:Int)<(BJ.2:Int))) then
 (SA.ref BJ.1).bind fun QY=>
 aj Bl QY.1 (QY.2+4) fun Ms=>
 let h45:=Bl.put jR.2.next (.cells true 39 [(.i .i64 0),(.i .i64 0),(.i .i64 0),(.i .i64 0),(.b false)])
 (h45.st (.n jR.2.next) 0 [(.i .i64 pr),(.i .i64 wg),(.i .i64 K8),(.i .i64 DC),(.b ((Ms:Int) == 1))]).bind fun VP=>
 aj VP (.n jR.2.next) 0 fun Dy=>
 aj VP (.n jR.2.next) 1 fun za=>
 aj VP (.n jR.2.next) 2 fun xB=>
 aj VP (.n jR.2.next) 3 fun BS=>
 (VP.ld (.n jR.2.next) 4).bind fun w55=>
 (AV.aZ w55).bind fun b56=>
 (Ff [(.agg [(.i .i64 Dy),(.i .i64 za),(.i .i64 xB),(.i .i64 BS),(.b b56)])] VP).bind fun VQ=>
 (AV.ay 2 VQ.1).bind fun c58=>
 cV c58 0 fun GW=>
 aq c58 1 fun BQ=>
 ((bif (((BQ:Int) != 0) == false) then
 some ([(.b ((GW:Int) != n0))],VQ.2)
 else some ([(.b true)],VQ.2)):Option (List AV × AH O)).bind fun ve=>
 (AV.aZ (ve.1.getD 0 .u)).bind fun b62=>
 (bif b62 then
 (ve.2.st (.n h.next) 0 [(.i .i64 0),(.i .i64 0),(.i .i64 0),(.i .i64 0),(.b false)]).bind fun Hn=>
 aj Hn (.n h.next) 0 fun Fb=>
 aj Hn (.n h.next) 1 fun HO=>
 aj Hn (.n h.next) 2 fun Gy=>
 aj Hn (.n h.next) 3 fun HN=>
 (Hn.ld (.n h.next) 4).bind fun w72=>
 (AV.aZ w72).bind fun b73=>
 some ((.aB [(.agg [(.i .i64 Fb),(.i .i64 HO),(.i .i64 Gy),(.i .i64 HN),(.b b73)]),(.i .i64 5)]),Hn)
 else aj ve.2 (.n jR.2.next) 0 fun VK=>
 aj ve.2 (.n jR.2.next) 1 fun Fi=>
 aj ve.2 (.n jR.2.next) 2 fun O0=>
 aj ve.2 (.n jR.2.next) 3 fun QV=>
 (ve.2.ld (.n jR.2.next) 4).bind fun w82=>
 (AV.aZ w82).bind fun b83=>
 (ve.2.st (.n h.next) 0 [(.i .i64 VK),(.i .i64 Fi),(.i .i64 O0),(.i .i64 QV),(.b b83)]).bind fun VR=>
 aj VR (.n h.next) 0 fun TR=>
 aj VR (.n h.next) 1 fun EY=>
 aj VR (.n h.next) 2 fun VN=>
 aj VR (.n h.next) 3 fun K9=>
 (VR.ld (.n h.next) 4).bind fun w93=>
 (AV.aZ w93).bind fun b94=>
 some ((.aB [(.agg [(.i .i64 TR),(.i .i64 EY),(.i .i64 VN),(.i .i64 K9),(.b b94)]),(.i .i64 0)]),VR))
 else none)
 else none)
 else none)
 else none)
 else none)
 else none
def Mb:Sm O:=qlt XQ U1 U3
theorem qlv:ag Tryz.prog 57:=Tryz.call57
theorem qlw (zh vg Ff:Sm O):run (O:=O) Tryz.prog [(110,zh),(111,vg),(87,Ff)] Tryz.f57 (.n .z (.n .z (.n (.n .z (.n (.lp false 0 [(4,.one .sl),(12,.one (.i .i64))] [(4,.one .sl)] (.n .z (.n .z (.n (.n .z .z) .z)))) .z)) (.n (.d [] [0,1,2,3,4,5,6,7,8,9,10,11,12,13,14,15,16,17,18,19] [0,1,3,0,8,24,63,0,128,384,0,1024,3072,0,8192,24576,57344,131071,0,524287]) (.n (.n .z (.n (.g [(2,3,[(53,.one .b)])]) (.n .z .z))) .z)))))=qlt zh vg Ff:=by kernel_rfl
theorem qlx:ai RO Tryz.prog 57 Mb:=bJ (qlw _ _ _) (ae qdl qdn <| ae qlp qlr <| ae qem qeo <| aE) Tryz.func57 (by kernel_rfl)
def qly (BT sW:Sm O):Sm O:=fun xs h=>
 bif Nat.beq xs.length 2 then
 (AV.bD (xs.getD 0 .u)).bind fun p0=>
 cV xs 1 fun n1=>
 let h2:=h.az 1
 let h3:=h2.put h.next (.cells true 39 [(.i .i64 0),(.i .i64 0),(.i .i64 0),(.i .i64 0),(.b false)])
 (BT [(.p p0),(.i .u64 n1),(.i .i64 0)] h3).bind fun r4=>
 (AV.ay 2 r4.1).bind fun c5=>
 cV c5 0 fun n6=>
 aq c5 1 fun n7=>
 (bif ((n7:Int) != 0) then
 (r4.2.st (.n h.next) 0 [(.i .i64 0),(.i .i64 0),(.i .i64 0),(.i .i64 0),(.b false)]).bind fun h8=>
 aj h8 (.n h.next) 0 fun eO=>
 aj h8 (.n h.next) 1 fun eD=>
 aj h8 (.n h.next) 2 fun iX=>
 aj h8 (.n h.next) 3 fun iQ=>
 (h8.ld (.n h.next) 4).bind fun ZT=>
 (AV.aZ ZT).bind fun Dv=>
 some ((.aB [(.agg [(.i .i64 eO),(.i .i64 eD),(.i .i64 iX),(.i .i64 iQ),(.b Dv)]),(.i .i64 n7)]),h8)
 else (sW [(.i .u64 n6)] r4.2).bind fun gH=>
 (AV.ay 2 gH.1).bind fun Bh=>
 (AV.asAgg 5 (Bh.getD 0 .u)).bind fun xL=>
 aq xL 0 fun iA=>
 aq xL 1 fun fj=>
 aq xL 2 fun nq=>
 aq xL 3 fun oZ=>
 (AV.aZ (xL.getD 4 .u)).bind fun b26=>
 aq Bh 1 fun qK=>
 (gH.2.st (.n h.next) 0 [(.i .i64 iA),(.i .i64 fj),(.i .i64 nq),(.i .i64 oZ),(.b b26)]).bind fun Bi=>
 aj Bi (.n h.next) 0 fun nY=>
 aj Bi (.n h.next) 1 fun pr=>
 aj Bi (.n h.next) 2 fun tJ=>
 aj Bi (.n h.next) 3 fun rU=>
 (Bi.ld (.n h.next) 4).bind fun w37=>
 (AV.aZ w37).bind fun TW=>
 some ((.aB [(.agg [(.i .i64 nY),(.i .i64 pr),(.i .i64 tJ),(.i .i64 rU),(.b TW)]),(.i .i64 qK)]),Bi))
 else none
def Yc:Sm O:=qly Nj Mb
theorem ql0:ag Tryz.prog 13:=Tryz.call13
theorem ql1 (BT sW:Sm O):run (O:=O) Tryz.prog [(56,BT),(57,sW)] Tryz.f13 (.n .z (.n .z (.n (.n .z (.n .z .z)) .z)))=qly BT sW:=by kernel_rfl
theorem ql2:ai RO Tryz.prog 13 Yc:=bJ (ql1 _ _) (ae qlk qlm <| ae qlv qlx <| aE) Tryz.func13 (by kernel_rfl)
def ql3 (qu:Sm O):Sm O:=fun xs h=>
 bif Nat.beq xs.length 2 then
 (AV.asAgg 2 (xs.getD 0 .u)).bind fun c0=>
 aq c0 0 fun n1=>
 aq c0 1 fun n2=>
 aq xs 1 fun n3=>
 let h4:=h.az 1
 let h5:=h4.put h.next (.cells true 37 [(.i .i64 n1),(.i .i64 n2)])
 aj h5 (.n h.next) 0 fun n7=>
 aj h5 (.n h.next) 1 fun n9=>
 (qu [(.agg [(.i .i64 n7),(.i .i64 n9)])] h5).bind fun du=>
 (AV.aZ du.1).bind fun GL=>
 ((bif ((!GL) == false) then
 some ([(.b (decide (n3<0)))],du.2)
 else some ([(.b true)],du.2)):Option (List AV × AH O)).bind fun iS=>
 (AV.aZ (iS.1.getD 0 .u)).bind fun OK=>
 ((bif (OK == false) then
 aj iS.2 (.n h.next) 1 fun fR=>
 some ([(.b (decide (n3>=fR)))],iS.2)
 else some ([(.b true)],iS.2)):Option (List AV × AH O)).bind fun iO=>
 (AV.aZ (iO.1.getD 0 .u)).bind fun GM=>
 (bif GM then
 some ((.aB [(.i .i64 0),(.i .i64 32)]),iO.2)
 else aj iO.2 (.n h.next) 0 fun fu=>
 let v20:Int:=(IntKind.i64.wrap ((IntKind.i64.wrap (1+fu))+n3))
 some ((.aB [(.i .i64 v20),(.i .i64 0)]),iO.2))
 else none
def ql4:Sm O:=ql3 SG
theorem ql5:ag Tryz.prog 96:=Tryz.call96
theorem ql6 (qu:Sm O):run (O:=O) Tryz.prog [(145,qu)] Tryz.f96 (.n .z (.n (.n (.g [(3,2,[(12,.one .b)]),(7,4,[(18,.one .b)])]) (.n .z .z)) .z))=ql3 qu:=by kernel_rfl
theorem ql7:ai RO Tryz.prog 96 ql4:=bJ (ql6 _) (ae qc0 qc2 <| aE) Tryz.func96 (by kernel_rfl)
def ql8 (nu o9 Fh Fg:Sm O):Sm O:=fun xs h=>
 bif Nat.beq xs.length 4 then
 (AV.bD (xs.getD 0 .u)).bind fun p0=>
 cV xs 1 fun n1=>
 aq xs 2 fun n2=>
 cV xs 3 fun n3=>
 (nu [(.i .u64 n1)] h).bind fun r4=>
 (AV.aX .i64 r4.1).bind fun n5=>
 (bif ((n5:Int) == 0) then
 some ((.i .i64 31),r4.2)
 else (bif ((n5:Int) == 1) then
 Option.bind p0 fun q6=>
 cD r4.2 q6.1 (q6.2+1) fun p8=>
 (o9 [(.i .u64 n1)] r4.2).bind fun r9=>
 (AV.aX .i64 r9.1).bind fun eO=>
 (aT (r9.2.ld q6.1 (q6.2+1)) (some (.p p8))).bind fun _=>
 (Fh [(.p p8),(.i .i64 (IntKind.i64.wrap (eO+n2))),(.i .u64 n3)] r9.2).bind fun eQ=>
 (AV.aX .i64 eQ.1).bind fun eD=>
 some ((.i .i64 eD),eQ.2)
 else (bif ((n5:Int) == 2) then
 Option.bind p0 fun mO=>
 cD r4.2 mO.1 ((mO.2+1)+1) fun GV=>
 (o9 [(.i .u64 n1)] r4.2).bind fun iO=>
 (AV.aX .i64 iO.1).bind fun fe=>
 (aT (iO.2.ld mO.1 ((mO.2+1)+1)) (some (.p GV))).bind fun _=>
 (Fg [(.p GV),(.i .i64 fe),(.i .i64 n2),(.i .u64 n3)] iO.2).bind fun iY=>
 (AV.aX .i64 iY.1).bind fun fu=>
 some ((.i .i64 fu),iY.2)
 else some ((.i .i64 5),r4.2))))
 else none
def NL:Sm O:=ql8 BE Md U' Qw
theorem qma:ag Tryz.prog 97:=Tryz.call97
theorem qmb (nu o9 Fh Fg:Sm O):run (O:=O) Tryz.prog [(53,nu),(63,o9),(93,Fh),(90,Fg)] Tryz.f97 (.n .z (.n (.n .z (.n (.n .z (.n .z (.n .z (.n (.n (.d [] [0,1,2,3,4,5,7,9,6,8,10,11] [0,1,3,7,15,0,32,0,224,0,1023,2047]) .z) (.n .z (.n (.n (.d [] [0,1,2,3,4,5,7,8,6,9,10] [0,1,3,7,15,0,32,0,0,511,1023]) .z) .z)))))) .z)) .z))=ql8 nu o9 Fh Fg:=by kernel_rfl
theorem qmc:ai RO Tryz.prog 97 NL:=bJ (qmb _ _ _ _) (ae T9 Ua <| ae qk5 qk7 <| ae qj1 qj3 <| ae qi7 qi9 <| aE) Tryz.func97 (by kernel_rfl)
def qmd (O1 k96 BU:Sm O):Sm O:=fun xs h=>
 bif Nat.beq xs.length 4 then
 (AV.bD (xs.getD 0 .u)).bind fun p0=>
 cV xs 1 fun n1=>
 aq xs 2 fun n2=>
 cV xs 3 fun n3=>
 let h4:=h.az 1
 (O1 [(.p p0),(.i .u64 n1)] h4).bind fun r5=>
 (AV.ay 2 r5.1).bind fun c6=>
 (AV.asAgg 5 (c6.getD 0 .u)).bind fun c7=>
 aq c7 0 fun n8=>
 aq c7 1 fun n9=>
 aq c7 2 fun eO=>
 aq c7 3 fun fy=>
 (AV.aZ (c7.getD 4 .u)).bind fun vY=>
 aq c6 1 fun fc=>
 let mQ:=r5.2.put h.next (.cells true 39 [(.i .i64 0),(.i .i64 0),(.i .i64 0),(.i .i64 0),(.b false)])
 (mQ.st (.n h.next) 0 [(.i .i64 n8),(.i .i64 n9),(.i .i64 eO),(.i .i64 fy),(.b vY)]).bind fun tF=>
 (bif ((fc:Int) != 0) then
 some ((.i .i64 fc),tF)
 else aj tF (.n h.next) 0 fun fe=>
 aj tF (.n h.next) 1 fun fu=>
 (k96 [(.agg [(.i .i64 fe),(.i .i64 fu)]),(.i .i64 n2)] tF).bind fun gA=>
 (AV.ay 2 gA.1).bind fun xL=>
 aq xL 0 fun iA=>
 aq xL 1 fun fj=>
 (bif ((fj:Int) != 0) then
 some ((.i .i64 fj),gA.2)
 else (BU [(.p p0),(.i .u64 n1),(.i .i64 iA),(.i .u64 n3)] gA.2).bind fun kZ=>
 (AV.aX .i64 kZ.1).bind fun oZ=>
 some ((.i .i64 oZ),kZ.2)))
 else none
def Qi:Sm O:=qmd Yc ql4 NL
theorem qmf:ag Tryz.prog 48:=Tryz.call48
theorem qmg (O1 k96 BU:Sm O):run (O:=O) Tryz.prog [(13,O1),(96,k96),(97,BU)] Tryz.f48 (.n .z (.n .z (.n (.n .z (.n .z .z)) (.n .z (.n (.n .z (.n .z .z)) .z)))))=qmd O1 k96 BU:=by kernel_rfl
theorem qmh:ai RO Tryz.prog 48 Qi:=bJ (qmg _ _ _) (ae ql0 ql2 <| ae ql5 ql7 <| ae qma qmc <| aE) Tryz.func48 (by kernel_rfl)
def qmi:Sm O:=fun xs h=>
 bif Nat.beq xs.length 3 then
 (AV.asAgg 5 (xs.getD 0 .u)).bind fun c0=>
 aq c0 0 fun n1=>
 aq c0 1 fun n2=>
 aq c0 2 fun n3=>
 aq c0 3 fun n4=>
 dx c0 4 fun l5=>
 aq xs 1 fun n6=>
 (AV.asAgg 8 (xs.getD 2 .u)).bind fun c7=>
 aq c7 0 fun n8=>
 aq c7 1 fun n9=>
 aq c7 2 fun eO=>
 aq c7 3 fun fy=>
 (AV.aZ (c7.getD 4 .u)).bind fun vY=>
 dx c7 5 fun HI=>
 dx c7 6 fun qJ=>
 cV c7 7 fun fR=>
 let vZ:=h.az 3
 let QZ:=vZ.put h.next (.cells true 105 [(.i .i64 n1),(.i .i64 n2),(.i .i64 n3),(.i .i64 n4),(.sl l5.1 l5.2)])
 let zK:=QZ.put (h.next+1) (.cells true 42 [(.i .i64 n8),(.i .i64 n9),(.i .i64 eO),(.i .i64 fy),(.b vY),(.sl HI.1 HI.2),(.sl qJ.1 qJ.2),(.i .u64 fR)])
 let vo:=zK.put ((h.next+1)+1) (.cells true 105 [(.i .i64 0),(.i .i64 0),(.i .i64 0),(.i .i64 0),(.sl .nil 0)])
 let xI:=vo.az 2
 let GU:=xI.put vo.next (.cells true 42 [])
 aV GU (.n h.next) 4 fun BM=>
 (GU.bT BM.1 BM.2 8).bind fun Lz=>
 (bif (Nat.ble ((0+BM.2)*97) 35184372088832) then
 (GU.cF (vo.next+1) 42 8 (.loc (.n vo.next) 0 8) 0 BM.2 Lz).bind fun eJ=>
 (AV.dF eJ.1).bind fun LA=>
 (eJ.2.st (.n h.next) 4 [(.sl LA.1 LA.2)]).bind fun zg=>
 aV zg (.n h.next) 4 fun HK=>
 aj zg (.n (h.next+1)) 0 fun we=>
 aj zg (.n (h.next+1)) 1 fun BR=>
 aj zg (.n (h.next+1)) 2 fun wg=>
 aj zg (.n (h.next+1)) 3 fun BO=>
 (zg.ld (.n (h.next+1)) 4).bind fun w38=>
 (AV.aZ w38).bind fun b39=>
 aV zg (.n (h.next+1)) 5 fun Ra=>
 aV zg (.n (h.next+1)) 6 fun Rb=>
 gO zg (.n (h.next+1)) 7 fun vr=>
 (bif ((decide ((0:Int)<=n6)) && (decide (n6<(HK.2:Int)))) then
 (SA.ref HK.1).bind fun q46=>
 (zg.st q46.1 (q46.2+(n6.toNat*8)) [(.i .i64 we),(.i .i64 BR),(.i .i64 wg),(.i .i64 BO),(.b b39),(.sl Ra.1 Ra.2),(.sl Rb.1 Rb.2),(.i .u64 vr)]).bind fun VS=>
 aj VS (.n h.next) 0 fun sH=>
 aj VS (.n h.next) 1 fun Fa=>
 aj VS (.n h.next) 2 fun Mq=>
 aj VS (.n h.next) 3 fun Lm=>
 aV VS (.n h.next) 4 fun Rc=>
 (VS.st (.n ((h.next+1)+1)) 0 [(.i .i64 sH),(.i .i64 Fa),(.i .i64 Mq),(.i .i64 Lm),(.sl Rc.1 Rc.2)]).bind fun VT=>
 aj VT (.n ((h.next+1)+1)) 0 fun BQ=>
 aj VT (.n ((h.next+1)+1)) 1 fun OH=>
 aj VT (.n ((h.next+1)+1)) 2 fun AL=>
 aj VT (.n ((h.next+1)+1)) 3 fun xP=>
 aV VT (.n ((h.next+1)+1)) 4 fun xJ=>
 some ((.agg [(.i .i64 BQ),(.i .i64 OH),(.i .i64 AL),(.i .i64 xP),(.sl xJ.1 xJ.2)]),VT)
 else none)
 else none)
 else none
def KQ:Sm O:=qmi
theorem qmk:ag Tryz.prog 98:=Tryz.call98
theorem qml:run (O:=O) Tryz.prog [] Tryz.f98 (.n .z (.n .z (.n .z .z)))=qmi:=by kernel_rfl
theorem qmm:ai RO Tryz.prog 98 KQ:=bJ qml (aE) Tryz.func98 (by kernel_rfl)
def Y9 (O2:Sm O):Sm O:=fun xs h=>
 bif Nat.beq xs.length 4 then
 (AV.asAgg 5 (xs.getD 0 .u)).bind fun c0=>
 aq c0 0 fun n1=>
 aq c0 1 fun n2=>
 aq c0 2 fun n3=>
 aq c0 3 fun n4=>
 dx c0 4 fun l5=>
 aq xs 1 fun n6=>
 aq xs 2 fun n7=>
 cV xs 3 fun n8=>
 let h9:=h.az 2
 let ij:=h9.put h.next (.cells true 105 [(.i .i64 n1),(.i .i64 n2),(.i .i64 n3),(.i .i64 n4),(.sl l5.1 l5.2)])
 let iq:=ij.put (h.next+1) (.cells true 105 [(.i .i64 0),(.i .i64 0),(.i .i64 0),(.i .i64 0),(.sl .nil 0)])
 let mS:=iq.az 1
 aV mS (.n h.next) 4 fun qJ=>
 (bif ((decide ((0:Int)<=n6)) && (decide (n6<(qJ.2:Int)))) then
 (SA.ref qJ.1).bind fun lh=>
 aj mS lh.1 (lh.2+(n6.toNat*8)) fun fe=>
 aj mS lh.1 ((lh.2+(n6.toNat*8))+1) fun fu=>
 aj mS lh.1 (((lh.2+(n6.toNat*8))+1)+1) fun lM=>
 aj mS lh.1 ((((lh.2+(n6.toNat*8))+1)+1)+1) fun fj=>
 (mS.ld lh.1 (((((lh.2+(n6.toNat*8))+1)+1)+1)+1)).bind fun w24=>
 (AV.aZ w24).bind fun ZZ=>
 aV mS lh.1 ((((((lh.2+(n6.toNat*8))+1)+1)+1)+1)+1) fun Re=>
 aV mS lh.1 (((((((lh.2+(n6.toNat*8))+1)+1)+1)+1)+1)+1) fun HK=>
 gO mS lh.1 ((((((((lh.2+(n6.toNat*8))+1)+1)+1)+1)+1)+1)+1) fun we=>
 let BV:=mS.put iq.next (.cells true 42 [(.i .i64 0),(.i .i64 0),(.i .i64 0),(.i .i64 0),(.b false),(.sl .nil 0),(.sl .nil 0),(.i .u64 0)])
 (BV.st (.n iq.next) 0 [(.i .i64 fe),(.i .i64 fu),(.i .i64 lM),(.i .i64 fj),(.b ZZ),(.sl Re.1 Re.2),(.sl HK.1 HK.2),(.i .u64 we)]).bind fun sU=>
 ((bif ((decide (n7<0)) == false) then
 aV sU (.n iq.next) 6 fun VU=>
 some ([(.b (decide (n7>=(VU.2:Int))))],sU)
 else some ([(.b true)],sU)):Option (List AV × AH O)).bind fun r36=>
 (AV.aZ (r36.1.getD 0 .u)).bind fun b37=>
 (bif b37 then
 aj r36.2 (.n h.next) 0 fun v9=>
 aj r36.2 (.n h.next) 1 fun DC=>
 aj r36.2 (.n h.next) 2 fun xM=>
 aj r36.2 (.n h.next) 3 fun vr=>
 aV r36.2 (.n h.next) 4 fun Rf=>
 (r36.2.st (.n (h.next+1)) 0 [(.i .i64 v9),(.i .i64 DC),(.i .i64 xM),(.i .i64 vr),(.sl Rf.1 Rf.2)]).bind fun Dw=>
 aj Dw (.n (h.next+1)) 0 fun za=>
 aj Dw (.n (h.next+1)) 1 fun xB=>
 aj Dw (.n (h.next+1)) 2 fun BS=>
 aj Dw (.n (h.next+1)) 3 fun DD=>
 aV Dw (.n (h.next+1)) 4 fun LB=>
 some ((.aB [(.agg [(.i .i64 za),(.i .i64 xB),(.i .i64 BS),(.i .i64 DD),(.sl LB.1 LB.2)]),(.i .i64 32)]),Dw)
 else let h59:=r36.2.az 2
 let LC:=h59.put r36.2.next (.cells true 33 [])
 aV LC (.n iq.next) 6 fun xQ=>
 (LC.bT xQ.1 xQ.2 1).bind fun Bm=>
 (bif (Nat.ble ((0+xQ.2)*9) 35184372088832) then
 (LC.cF (r36.2.next+1) 33 1 (.loc (.n r36.2.next) 0 1) 0 xQ.2 Bm).bind fun vh=>
 (AV.dF vh.1).bind fun O3=>
 (vh.2.st (.n iq.next) 6 [(.sl O3.1 O3.2)]).bind fun Mr=>
 aV Mr (.n iq.next) 6 fun xJ=>
 (bif ((decide ((0:Int)<=n7)) && (decide (n7<(xJ.2:Int)))) then
 (SA.ref xJ.1).bind fun Mp=>
 (Mr.st Mp.1 (Mp.2+(n7.toNat*1)) [(.i .u64 n8)]).bind fun lN=>
 aj lN (.n h.next) 0 fun QU=>
 aj lN (.n h.next) 1 fun GX=>
 aj lN (.n h.next) 2 fun Bf=>
 aj lN (.n h.next) 3 fun Ls=>
 aV lN (.n h.next) 4 fun zu=>
 aj lN (.n iq.next) 0 fun TQ=>
 aj lN (.n iq.next) 1 fun Fe=>
 aj lN (.n iq.next) 2 fun TR=>
 aj lN (.n iq.next) 3 fun EY=>
 (lN.ld (.n iq.next) 4).bind fun w89=>
 (AV.aZ w89).bind fun b90=>
 aV lN (.n iq.next) 5 fun Rg=>
 aV lN (.n iq.next) 6 fun Rh=>
 gO lN (.n iq.next) 7 fun zJ=>
 (O2 [(.agg [(.i .i64 QU),(.i .i64 GX),(.i .i64 Bf),(.i .i64 Ls),(.sl zu.1 zu.2)]),(.i .i64 n6),(.agg [(.i .i64 TQ),(.i .i64 Fe),(.i .i64 TR),(.i .i64 EY),(.b b90),(.sl Rg.1 Rg.2),(.sl Rh.1 Rh.2),(.i .u64 zJ)])] lN).bind fun O4=>
 (AV.asAgg 5 O4.1).bind fun LD=>
 aq LD 0 fun n99=>
 aq LD 1 fun DE=>
 aq LD 2 fun zn=>
 aq LD 3 fun Bn=>
 dx LD 4 fun Bo=>
 (O4.2.st (.n (h.next+1)) 0 [(.i .i64 n99),(.i .i64 DE),(.i .i64 zn),(.i .i64 Bn),(.sl Bo.1 Bo.2)]).bind fun rX=>
 aj rX (.n (h.next+1)) 0 fun jA=>
 aj rX (.n (h.next+1)) 1 fun G8=>
 aj rX (.n (h.next+1)) 2 fun Lb=>
 aj rX (.n (h.next+1)) 3 fun Dp=>
 aV rX (.n (h.next+1)) 4 fun LF=>
 some ((.aB [(.agg [(.i .i64 jA),(.i .i64 G8),(.i .i64 Lb),(.i .i64 Dp),(.sl LF.1 LF.2)]),(.i .i64 0)]),rX)
 else none)
 else none))
 else none)
 else none
def R2:Sm O:=vk (Y9 KQ)
theorem qmp:ag Tryz.prog 49:=Tryz.call49
theorem qmq (O2:Sm O):run (O:=O) Tryz.prog [(98,O2)] Tryz.f49 (.n .z (.n .z (.n (.n (.g [(2,5,[(24,.one .b)])]) (.n .z .z)) (.n .z (.n .z .z)))))=Y9 O2:=by kernel_rfl
theorem qmr:ai RO Tryz.prog 49 (R2):=
   have h:ai RO Tryz.prog 49 (Y9 KQ):=(qmq KQ)▸eH (ae qmk (qmm) <| aE) mixed Tryz.func49 (by kernel_rfl) _
   h.vk
def WZ (fU:List AV × AH O) (fj:Int) (l0:SA × Nat) (Ri:Sm O) (p3:Option (fH × Nat)) (EX:Int) (dZ:List AV × AH O) (Rj:Sm O):List AV × AH O->Option ((List AV × AH O) ⊕ ((List AV × AH O) ⊕ ((List AV × AH O) ⊕ ((List AV × AH O) ⊕ (AV × AH O))))):=(fun LG=>
 (AV.aX .i64 (LG.1.getD 0 .u)).bind fun Fi=>
 aj LG.2 (.n fU.2.next) 1 fun O0=>
 (bif (decide (Fi<O0)) then
 (bif ((decide ((0:Int)<=fj)) && (decide (fj<(l0.2:Int)))) then
 (SA.ref l0.1).bind fun q80=>
 gO LG.2 q80.1 ((q80.2+(fj.toNat*4))+3) fun TQ=>
 let v83:Int:=(IntKind.u64.wrap (TQ+(IntKind.u64.wrap Fi)))
 (Ri [(.p p3),(.i .u64 EX),(.i .i64 Fi),(.i .u64 v83)] LG.2).bind fun O5=>
 (AV.aX .i64 O5.1).bind fun Bj=>
 (bif ((Bj:Int) != 0) then
 ((((some ((.aB [(.p none),(.sl .nil 0),(.b false)]),O5.2):Option (AV × AH O)).map fun r=>Sum.inr (Sum.inr r)):Option ((List AV × AH O) ⊕ ((List AV × AH O) ⊕ (AV × AH O)))).map fun r=>Sum.inr (Sum.inr r))
 else aj O5.2 (.n dZ.2.next) 0 fun Lv=>
 aj O5.2 (.n dZ.2.next) 1 fun n89=>
 aj O5.2 (.n dZ.2.next) 2 fun n91=>
 aj O5.2 (.n dZ.2.next) 3 fun OR=>
 aV O5.2 (.n dZ.2.next) 4 fun l95=>
 (bif ((decide ((0:Int)<=fj)) && (decide (fj<(l0.2:Int)))) then
 (SA.ref l0.1).bind fun q96=>
 gO O5.2 q96.1 ((q96.2+(fj.toNat*4))+3) fun n98=>
 let v99:Int:=(IntKind.u64.wrap (n98+(IntKind.u64.wrap Fi)))
 (Rj [(.agg [(.i .i64 Lv),(.i .i64 n89),(.i .i64 n91),(.i .i64 OR),(.sl l95.1 l95.2)]),(.i .i64 fj),(.i .i64 Fi),(.i .u64 v99)] O5.2).bind fun aaN=>
 (AV.ay 2 aaN.1).bind fun aaO=>
 (AV.asAgg 5 (aaO.getD 0 .u)).bind fun LH=>
 aq LH 0 fun Lt=>
 aq LH 1 fun LI=>
 aq LH 2 fun DA=>
 aq LH 3 fun jA=>
 dx LH 4 fun La=>
 aq aaO 1 fun G8=>
 (aaN.2.st (.n dZ.2.next) 0 [(.i .i64 Lt),(.i .i64 LI),(.i .i64 DA),(.i .i64 jA),(.sl La.1 La.2)]).bind fun G9=>
 some (Sum.inl ([(.i .i64 (IntKind.i64.wrap (Fi+1)))],G9))
 else none))
 else none)
 else some (Sum.inr (Sum.inl ([],LG.2)))))
def W9 (l0:SA × Nat) (VV:Sm O) (p3:Option (fH × Nat)) (dZ:List AV × AH O) (VW:Sm O) (Ri:Sm O) (Rj:Sm O):List AV × AH O->Option ((List AV × AH O) ⊕ ((List AV × AH O) ⊕ (AV × AH O))):=(fun fU=>
 (AV.aX .i64 (fU.1.getD 0 .u)).bind fun fj=>
 (bif (decide (fj<(l0.2:Int))) then
 let GP:=fU.2.az 1
 (bif ((decide ((0:Int)<=fj)) && (decide (fj<(l0.2:Int)))) then
 (SA.ref l0.1).bind fun Ub=>
 aj GP Ub.1 (Ub.2+(fj.toNat*4)) fun qK=>
 (bif ((decide ((0:Int)<=fj)) && (decide (fj<(l0.2:Int)))) then
 (SA.ref l0.1).bind fun Uc=>
 aj GP Uc.1 ((Uc.2+(fj.toNat*4))+1) fun nY=>
 let EW:=GP.put fU.2.next (.cells true 37 [(.i .i64 0),(.i .i64 0)])
 (EW.st (.n fU.2.next) 0 [(.i .i64 (bG .and .i64 qK 15)),(.i .i64 (bG .and .i64 nY 15))]).bind fun BV=>
 aj BV (.n fU.2.next) 0 fun tJ=>
 aj BV (.n fU.2.next) 1 fun rU=>
 (bif ((decide ((0:Int)<=fj)) && (decide (fj<(l0.2:Int)))) then
 (SA.ref l0.1).bind fun Fj=>
 (BV.ld Fj.1 ((Fj.2+(fj.toNat*4))+2)).bind fun w38=>
 (AV.aX .u8 w38).bind fun v9=>
 (VV [(.p p3),(.agg [(.i .i64 tJ),(.i .i64 rU)]),(.i .i64 (IntKind.i64.wrap (bG .and .u8 v9 31)))] BV).bind fun Bp=>
 (AV.ay 2 Bp.1).bind fun c41=>
 cV c41 0 fun EX=>
 aq c41 1 fun xM=>
 aj Bp.2 (.n dZ.2.next) 0 fun vr=>
 aj Bp.2 (.n dZ.2.next) 1 fun Lr=>
 aj Bp.2 (.n dZ.2.next) 2 fun sH=>
 aj Bp.2 (.n dZ.2.next) 3 fun Fa=>
 aV Bp.2 (.n dZ.2.next) 4 fun l53=>
 aj Bp.2 (.n fU.2.next) 0 fun Lm=>
 aj Bp.2 (.n fU.2.next) 1 fun GH=>
 (bif ((decide ((0:Int)<=fj)) && (decide (fj<(l0.2:Int)))) then
 (SA.ref l0.1).bind fun q58=>
 (Bp.2.ld q58.1 ((q58.2+(fj.toNat*4))+2)).bind fun w59=>
 (AV.aX .u8 w59).bind fun BQ=>
 (VW [(.agg [(.i .i64 vr),(.i .i64 Lr),(.i .i64 sH),(.i .i64 Fa),(.sl l53.1 l53.2)]),(.agg [(.i .i64 Lm),(.i .i64 GH)]),(.i .i64 (IntKind.i64.wrap (bG .and .u8 BQ 31)))] Bp.2).bind fun ve=>
 (AV.ay 3 ve.1).bind fun c62=>
 (AV.asAgg 5 (c62.getD 0 .u)).bind fun c63=>
 aq c63 0 fun AL=>
 aq c63 1 fun Fb=>
 aq c63 2 fun xP=>
 aq c63 3 fun HO=>
 dx c63 4 fun xJ=>
 cV c62 1 fun Gy=>
 aq c62 2 fun VO=>
 (ve.2.st (.n dZ.2.next) 0 [(.i .i64 AL),(.i .i64 Fb),(.i .i64 xP),(.i .i64 HO),(.sl xJ.1 xJ.2)]).bind fun Ud=>
 ((bif (((xM:Int) != 0) == false) then
 some ([(.b ((VO:Int) != 0))],Ud)
 else some ([(.b true)],Ud)):Option (List AV × AH O)).bind fun OI=>
 (AV.aZ (OI.1.getD 0 .u)).bind fun b73=>
 ((bif (b73 == false) then
 some ([(.b ((EX:Int) != Gy))],OI.2)
 else some ([(.b true)],OI.2)):Option (List AV × AH O)).bind fun Q4=>
 (AV.aZ (Q4.1.getD 0 .u)).bind fun b75=>
 (bif b75 then
 ((some ((.aB [(.p none),(.sl .nil 0),(.b false)]),Q4.2):Option (AV × AH O)).map fun r=>Sum.inr (Sum.inr r))
 else cv (S:=List AV × AH O) (R:=((List AV × AH O) ⊕ ((List AV × AH O) ⊕ (AV × AH O)))) (bC (S:=List AV × AH O) (T:=(List AV × AH O) ⊕ ((List AV × AH O) ⊕ ((List AV × AH O) ⊕ (AV × AH O)))) (WZ fU fj l0 Ri p3 EX dZ Rj) ([(.i .i64 0)],Q4.2)) fun zw=>
 some (Sum.inl ([(.i .i64 (IntKind.i64.wrap (fj+1)))],zw.2)))
 else none)
 else none)
 else none)
 else none)
 else some (Sum.inr (Sum.inl ([],fU.2)))))
def qmu (k45 lO qD O6 VV VW Ri Rj:Sm O):Sm O:=fun xs h=>
 bif Nat.beq xs.length 1 then
 dx xs 0 fun l0=>
 (k45 [(.i .i64 8),(.i .i64 (IntKind.i64.wrap (8*(l0.2:Int))))] h).bind fun r1=>
 (AV.ay 2 r1.1).bind fun c2=>
 (AV.bD (c2.getD 0 .u)).bind fun p3=>
 aq c2 1 fun n4=>
 ((bif ((Option.isNone p3) == false) then
 some ([(.b ((n4:Int) != 0))],r1.2)
 else some ([(.b true)],r1.2)):Option (List AV × AH O)).bind fun r5=>
 (AV.aZ (r5.1.getD 0 .u)).bind fun b6=>
 ((bif (b6 == false) then
 (lO [(.p p3)] r5.2).bind fun r7=>
 (AV.bD r7.1).bind fun p8=>
 some ([(.b (Option.isNone p8))],r7.2)
 else some ([(.b true)],r5.2)):Option (List AV × AH O)).bind fun r9=>
 (AV.aZ (r9.1.getD 0 .u)).bind fun GN=>
 ((bif (GN == false) then
 (qD [(.p p3)] r9.2).bind fun eQ=>
 (AV.bD eQ.1).bind fun BL=>
 some ([(.b (Option.isNone BL))],eQ.2)
 else some ([(.b true)],r9.2)):Option (List AV × AH O)).bind fun fk=>
 (AV.aZ (fk.1.getD 0 .u)).bind fun TG=>
 ((bif (TG == false) then
 (O6 [(.p p3)] fk.2).bind fun fN=>
 (AV.bD fN.1).bind fun vd=>
 some ([(.b (Option.isNone vd))],fN.2)
 else some ([(.b true)],fk.2)):Option (List AV × AH O)).bind fun dZ=>
 (AV.aZ (dZ.1.getD 0 .u)).bind fun Dv=>
 (bif Dv then
 some ((.aB [(.p none),(.sl .nil 0),(.b false)]),dZ.2)
 else let vo:=dZ.2.az 1
 let xI:=vo.put dZ.2.next (.cells true 105 [(.i .i64 0),(.i .i64 0),(.i .i64 0),(.i .i64 0),(.sl .nil 0)])
 (xI.st (.n dZ.2.next) 0 [(.i .i64 8),(.i .i64 (IntKind.i64.wrap (8*(l0.2:Int)))),(.i .i64 0),(.i .i64 0),(.sl .nil 0)]).bind fun GU=>
 cv (S:=List AV × AH O) (R:=(AV × AH O)) (bC (S:=List AV × AH O) (T:=(List AV × AH O) ⊕ (AV × AH O)) (W9 l0 VV p3 dZ VW Ri Rj) ([(.i .i64 0)],GU)) fun aaR=>
 aV aaR.2 (.n dZ.2.next) 4 fun Bk=>
 some ((.aB [(.p p3),(.sl Bk.1 Bk.2),(.b true)]),aaR.2))
 else none
def Xb:Sm O:=qmu qb5 BC El Xc Nb Xa Qi R2
theorem qmw:ag Tryz.prog 9:=Tryz.call9
theorem qmx (k45 lO qD O6 VV VW Ri Rj:Sm O):run (O:=O) Tryz.prog [(45,k45),(23,lO),(32,qD),(16,O6),(46,VV),(47,VW),(48,Ri),(49,Rj)] Tryz.f9 (.n .z (.n .z (.n (.n (.g [(2,2,[(27,.one .b)]),(6,3,[(32,.one .b)]),(11,3,[(37,.one .b)]),(16,3,[(42,.one .b)])]) (.n .z .z)) (.n .z (.n (.n .z (.n (.lp true 0 [(8,.one (.i .i64))] [] (.n (.n .z .z) (.n (.n (.n (.d [] [0,1,2,3,4,5,6,7,8,9,10,11,12,13,14,15,16] [0,0,3,7,15,31,63,0,0,384,896,1920,3968,8064,16383,0,65535]) (.n (.d [] [0,1,2,3,4,5,6,7,8,9,10,11,12,13,14] [0,0,0,0,12,28,60,124,252,511,1023,2047,2047,4095,16383]) (.n .z (.n .z (.n (.d [] [0,1,2,3,4,5,6,7,8,9,10,11,12,13,14,15,16] [0,0,0,0,12,28,60,124,252,511,1023,2047,2047,2047,4095,24575,65535]) (.n (.n (.g [(2,2,[(100,.one .b)]),(6,3,[(105,.one .b)])]) (.n .z .z)) (.n .z (.n (.lp true 2 [(14,.one (.i .i64))] [] (.n (.n .z .z) (.n (.n (.n (.n .z (.n .z .z)) (.d [] [0,1,2,3,4,5,6,7,8,9,10,11,12,13,14,15] [0,0,0,0,0,24,56,120,0,256,1016,2047,4095,8191,8191,16383])) .z) .z))) .z)))))))) .z) .z))) .z)) (.n (.d [] [0,1,2,3,4,5] [0,0,2,1,15,31]) .z))))))=qmu k45 lO qD O6 VV VW Ri Rj:=by kernel_rfl
theorem qmy:ai RO Tryz.prog 9 Xb:=bJ (qmx _ _ _ _ _ _ _ _) (ae qb6 qb8 <| ae TD TE <| ae VD VE <| ae qcl qcn <| ae qkb qkd <| ae qkv qkx <| ae qmf qmh <| ae qmp qmr <| aE) Tryz.func9 (by kernel_rfl)
def qmz:Sm O:=fun xs h=>
 bif Nat.beq xs.length 1 then
 (AV.asAgg 5 (xs.getD 0 .u)).bind fun c0=>
 aq c0 0 fun n1=>
 aq c0 1 fun n2=>
 aq c0 2 fun n3=>
 aq c0 3 fun n4=>
 (AV.aZ (c0.getD 4 .u)).bind fun b5=>
 let h6:=h.az 1
 let h7:=h6.put h.next (.cells true 39 [(.i .i64 n1),(.i .i64 n2),(.i .i64 n3),(.i .i64 n4),(.b b5)])
 some ((.aB []),h7)
 else none
def Vc:Sm O:=qmz
theorem qm1:ag Tryz.prog 50:=Tryz.call50
theorem qm2:run (O:=O) Tryz.prog [] Tryz.f50 .z=qmz:=by kernel_rfl
theorem qm3:ai RO Tryz.prog 50 Vc:=bJ qm2 (aE) Tryz.func50 (by kernel_rfl)
def qm4 (Rk:Sm O):Sm O:=fun xs h=>
 bif Nat.beq xs.length 2 then
 (AV.bD (xs.getD 0 .u)).bind fun p0=>
 (AV.Hk (xs.getD 1 .u)).bind fun f1=>
 ((bif (Option.isNone f1) then
 some ([(.fn (some (.func 50,[],[])))],h)
 else some ([(.fn f1)],h)):Option (List AV × AH O)).bind fun r2=>
 (AV.Hk (r2.1.getD 0 .u)).bind fun f3=>
 let h4:=r2.2.az 1
 let h5:=h4.put r2.2.next (.cells true 113 [(.p p0),(.fn f3),(.i .i64 0)])
 some ((.p (some ((.n r2.2.next),0))),h5)
 else none
def Ym:Sm O:=qm4 Vc
theorem qm6:ag Tryz.prog 10:=Tryz.call10
theorem qm7 (Rk:Sm O):run (O:=O) Tryz.prog [(50,Rk)] Tryz.f10 (.n .z (.n (.n .z (.j false [(1,.one .f)] .z .z)) .z))=qm4 Rk:=by kernel_rfl
theorem qm8:ai RO Tryz.prog 10 Ym:=bJ (qm7 _) (ae qm1 qm3 <| aE) Tryz.func10 (by kernel_rfl)
def QF:Sm O:=fun xs h=>
 bif Nat.beq xs.length 1 then
 (AV.bD (xs.getD 0 .u)).bind fun p0=>
 Option.bind p0 fun q1=>
 cD h q1.1 q1.2 fun p3=>
 some ((.p p3),h)
 else none
def Ku:Sm O:=QF
theorem qnb:ag Tryz.prog 44:=Tryz.call44
theorem qnc:run (O:=O) Tryz.prog [] Tryz.f44 (.n .z .z)=QF:=by kernel_rfl
theorem qnd:ai RO Tryz.prog 44 Ku:=bJ qnc (aE) Tryz.func44 (by kernel_rfl)
def Vg:Sm O:=fun xs h=>
 bif Nat.beq xs.length 1 then
 (AV.bD (xs.getD 0 .u)).bind fun p0=>
 Option.bind p0 fun q1=>
 aj h q1.1 ((q1.2+1)+1) fun n3=>
 some ((.i .i64 n3),h)
 else none
def QE:Sm O:=Vg
theorem qng:ag Tryz.prog 24:=Tryz.call24
theorem qnh:run (O:=O) Tryz.prog [] Tryz.f24 (.n .z .z)=Vg:=by kernel_rfl
theorem qni:ai RO Tryz.prog 24 QE:=bJ qnh (aE) Tryz.func24 (by kernel_rfl)
def qnj (tE:Sm O):Sm O:=fun xs h=>
 bif Nat.beq xs.length 2 then
 (AV.bD (xs.getD 0 .u)).bind fun p0=>
 aq xs 1 fun n1=>
 Option.bind p0 fun q2=>
 (h.ld q2.1 (q2.2+5)).bind fun w3=>
 (AV.aZ w3).bind fun b4=>
 (bif b4 then
 some ((.i .i64 1),h)
 else Option.bind p0 fun q5=>
 cD h q5.1 q5.2 fun p7=>
 (tE [(.p p7),(.i .i64 n1)] h).bind fun r8=>
 (AV.ay 2 r8.1).bind fun c9=>
 aq c9 0 fun eO=>
 aq c9 1 fun fy=>
 (bif ((fy:Int) != 0) then
 some ((.i .i64 fy),r8.2)
 else Option.bind p0 fun px=>
 aj r8.2 px.1 (px.2+1) fun iX=>
 aj r8.2 px.1 ((px.2+1)+1) fun iQ=>
 Option.bind p0 fun sD=>
 (r8.2.st sD.1 (sD.2+3) [(.i .i64 iX),(.i .i64 iQ)]).bind fun zK=>
 Option.bind p0 fun GR=>
 (zK.st GR.1 (GR.2+1) [(.i .i64 eO),(.i .i64 0)]).bind fun xI=>
 Option.bind p0 fun Ln=>
 (xI.st Ln.1 (Ln.2+5) [(.b true)]).bind fun G0=>
 some ((.i .i64 0),G0)))
 else none
def qnk:Sm O:=qnj AN
theorem qnl:ag Tryz.prog 51:=Tryz.call51
theorem qnm (tE:Sm O):run (O:=O) Tryz.prog [(99,tE)] Tryz.f51 (.n .z (.n (.n .z (.n .z .z)) (.n .z (.n (.n .z (.n .z .z)) (.n .z .z)))))=qnj tE:=by kernel_rfl
theorem qnn:ai RO Tryz.prog 51 qnk:=bJ (qnm _) (ae ZX ZY <| aE) Tryz.func51 (by kernel_rfl)
def qno (qz lL:Sm O):Sm O:=fun xs h=>
 bif Nat.beq xs.length 3 then
 (AV.asAgg 5 (xs.getD 0 .u)).bind fun c0=>
 (AV.bD (c0.getD 0 .u)).bind fun p1=>
 aq c0 1 fun n2=>
 aq c0 2 fun n3=>
 aq c0 3 fun n4=>
 aq c0 4 fun n5=>
 (AV.asAgg 3 (xs.getD 1 .u)).bind fun c6=>
 aq c6 0 fun n7=>
 aq c6 1 fun n8=>
 aq c6 2 fun n9=>
 (AV.asAgg 3 (xs.getD 2 .u)).bind fun BK=>
 aq BK 0 fun fy=>
 aq BK 1 fun eD=>
 aq BK 2 fun fc=>
 let mQ:=h.az 4
 let tF:=mQ.put h.next (.cells true 184 [(.p p1),(.i .i64 n2),(.i .i64 n3),(.i .i64 n4),(.i .i64 n5)])
 let vZ:=tF.put (h.next+1) (.cells true 155 [(.i .i64 n7),(.i .i64 n8),(.i .i64 n9)])
 let QZ:=vZ.put ((h.next+1)+1) (.cells true 155 [(.i .i64 fy),(.i .i64 eD),(.i .i64 fc)])
 let zK:=QZ.put (((h.next+1)+1)+1) (.cells true 155 [(.i .i64 0),(.i .i64 0),(.i .i64 0)])
 cD zK (.n h.next) 0 fun Rl=>
 aj zK (.n h.next) 1 fun iA=>
 aj zK (.n h.next) 2 fun nq=>
 aj zK (.n h.next) 3 fun eN=>
 aj zK (.n h.next) 4 fun qw=>
 (qz [(.agg [(.p Rl),(.i .i64 iA),(.i .i64 nq),(.i .i64 eN),(.i .i64 qw)])] zK).bind fun lB=>
 (AV.aZ lB.1).bind fun b30=>
 (bif (!b30) then
 aj lB.2 (.n (h.next+1)) 0 fun pr=>
 aj lB.2 (.n (h.next+1)) 1 fun tJ=>
 aj lB.2 (.n (h.next+1)) 2 fun rU=>
 (lB.2.st (.n (((h.next+1)+1)+1)) 0 [(.i .i64 pr),(.i .i64 tJ),(.i .i64 rU)]).bind fun Ov=>
 aj Ov (.n (((h.next+1)+1)+1)) 0 fun v9=>
 aj Ov (.n (((h.next+1)+1)+1)) 1 fun DC=>
 aj Ov (.n (((h.next+1)+1)+1)) 2 fun xM=>
 some ((.aB [(.agg [(.i .i64 v9),(.i .i64 DC),(.i .i64 xM)]),(.i .i64 1)]),Ov)
 else aj lB.2 (.n (h.next+1)) 2 fun vr=>
 (bif ((vr:Int) == 0) then
 aj lB.2 (.n ((h.next+1)+1)) 0 fun Lr=>
 aj lB.2 (.n ((h.next+1)+1)) 1 fun sH=>
 aj lB.2 (.n ((h.next+1)+1)) 2 fun Fa=>
 (lB.2.st (.n (((h.next+1)+1)+1)) 0 [(.i .i64 Lr),(.i .i64 sH),(.i .i64 Fa)]).bind fun sR=>
 aj sR (.n (((h.next+1)+1)+1)) 0 fun BS=>
 aj sR (.n (((h.next+1)+1)+1)) 1 fun DD=>
 aj sR (.n (((h.next+1)+1)+1)) 2 fun HM=>
 some ((.aB [(.agg [(.i .i64 BS),(.i .i64 DD),(.i .i64 HM)]),(.i .i64 0)]),sR)
 else aj lB.2 (.n ((h.next+1)+1)) 2 fun BQ=>
 (bif ((BQ:Int) == 0) then
 aj lB.2 (.n (h.next+1)) 0 fun OH=>
 aj lB.2 (.n (h.next+1)) 1 fun AL=>
 aj lB.2 (.n (h.next+1)) 2 fun xP=>
 (lB.2.st (.n (((h.next+1)+1)+1)) 0 [(.i .i64 OH),(.i .i64 AL),(.i .i64 xP)]).bind fun h67=>
 aj h67 (.n (((h.next+1)+1)+1)) 0 fun Gy=>
 aj h67 (.n (((h.next+1)+1)+1)) 1 fun HN=>
 aj h67 (.n (((h.next+1)+1)+1)) 2 fun TM=>
 some ((.aB [(.agg [(.i .i64 Gy),(.i .i64 HN),(.i .i64 TM)]),(.i .i64 0)]),h67)
 else cD lB.2 (.n h.next) 0 fun p75=>
 aj lB.2 (.n h.next) 1 fun Fi=>
 aj lB.2 (.n h.next) 2 fun O0=>
 aj lB.2 (.n h.next) 3 fun QV=>
 aj lB.2 (.n h.next) 4 fun n83=>
 aj lB.2 (.n (h.next+1)) 1 fun Bj=>
 aj lB.2 (.n h.next) 3 fun Lv=>
 aj lB.2 (.n ((h.next+1)+1)) 0 fun n89=>
 (lL [(.agg [(.p p75),(.i .i64 Fi),(.i .i64 O0),(.i .i64 QV),(.i .i64 n83)]),(.i .i64 Bj),(.i .i64 Lv),(.i .i64 n89)] lB.2).bind fun Mt=>
 (AV.ay 0 Mt.1).bind fun c91=>
 cD Mt.2 (.n h.next) 0 fun p93=>
 aj Mt.2 (.n h.next) 1 fun n95=>
 aj Mt.2 (.n h.next) 2 fun n97=>
 aj Mt.2 (.n h.next) 3 fun n99=>
 aj Mt.2 (.n h.next) 4 fun zn=>
 aj Mt.2 (.n ((h.next+1)+1)) 0 fun Lt=>
 aj Mt.2 (.n h.next) 4 fun DA=>
 aj Mt.2 (.n (h.next+1)) 1 fun Lw=>
 (lL [(.agg [(.p p93),(.i .i64 n95),(.i .i64 n97),(.i .i64 n99),(.i .i64 zn)]),(.i .i64 Lt),(.i .i64 DA),(.i .i64 Lw)] Mt.2).bind fun G'=>
 (AV.ay 0 G'.1).bind fun axn=>
 aj G'.2 (.n (h.next+1)) 0 fun zq=>
 aj G'.2 (.n ((h.next+1)+1)) 1 fun DI=>
 aj G'.2 (.n (h.next+1)) 2 fun Lx=>
 aj G'.2 (.n ((h.next+1)+1)) 2 fun aaT=>
 (G'.2.st (.n (((h.next+1)+1)+1)) 0 [(.i .i64 zq),(.i .i64 DI),(.i .i64 (IntKind.i64.wrap (Lx+aaT)))]).bind fun O7=>
 aj O7 (.n (((h.next+1)+1)+1)) 0 fun alu=>
 aj O7 (.n (((h.next+1)+1)+1)) 1 fun Ld=>
 aj O7 (.n (((h.next+1)+1)+1)) 2 fun Le=>
 some ((.aB [(.agg [(.i .i64 alu),(.i .i64 Ld),(.i .i64 Le)]),(.i .i64 0)]),O7))))
 else none
def qnp:Sm O:=qno UU UX
theorem qnq:ag Tryz.prog 101:=Tryz.call101
theorem qnr (qz lL:Sm O):run (O:=O) Tryz.prog [(148,qz),(149,lL)] Tryz.f101 (.n .z (.n (.n (.n .z (.n .z (.n .z (.n .z (.n .z (.n .z .z)))))) .z) (.n .z (.n .z .z))))=qno qz lL:=by kernel_rfl
theorem qns:ai RO Tryz.prog 101 qnp:=bJ (qnr _ _) (ae qhy qh0 <| ae qin qip <| aE) Tryz.func101 (by kernel_rfl)
def qnt (gC O8:Sm O):Sm O:=fun xs h=>
 bif Nat.beq xs.length 1 then
 (AV.bD (xs.getD 0 .u)).bind fun p0=>
 Option.bind p0 fun q1=>
 gO h q1.1 (q1.2+8) fun n3=>
 Option.bind p0 fun q4=>
 (h.st q4.1 (q4.2+8) [(.i .u64 (IntKind.u64.wrap (n3+1)))]).bind fun h5=>
 Option.bind p0 fun q6=>
 aj h5 q6.1 (q6.2+5) fun n8=>
 aj h5 q6.1 ((q6.2+5)+1) fun eO=>
 aj h5 q6.1 (((q6.2+5)+1)+1) fun eD=>
 Option.bind p0 fun mO=>
 aj h5 mO.1 (mO.2+2) fun fR=>
 aj h5 mO.1 ((mO.2+2)+1) fun fe=>
 aj h5 mO.1 (((mO.2+2)+1)+1) fun fu=>
 (gC [(.p p0)] h5).bind fun gA=>
 (AV.asAgg 5 gA.1).bind fun xL=>
 (AV.bD (xL.getD 0 .u)).bind fun TP=>
 aq xL 1 fun fj=>
 aq xL 2 fun nq=>
 aq xL 3 fun oZ=>
 aq xL 4 fun eN=>
 (aT (gA.2.ld q6.1 (q6.2+5)) (some (.i .i64 n8))).bind fun _=>
 (aT (gA.2.ld q6.1 ((q6.2+5)+1)) (some (.i .i64 eO))).bind fun _=>
 (aT (gA.2.ld q6.1 (((q6.2+5)+1)+1)) (some (.i .i64 eD))).bind fun _=>
 (aT (gA.2.ld mO.1 (mO.2+2)) (some (.i .i64 fR))).bind fun _=>
 (aT (gA.2.ld mO.1 ((mO.2+2)+1)) (some (.i .i64 fe))).bind fun _=>
 (aT (gA.2.ld mO.1 (((mO.2+2)+1)+1)) (some (.i .i64 fu))).bind fun _=>
 (O8 [(.agg [(.p TP),(.i .i64 fj),(.i .i64 nq),(.i .i64 oZ),(.i .i64 eN)]),(.agg [(.i .i64 n8),(.i .i64 eO),(.i .i64 eD)]),(.agg [(.i .i64 fR),(.i .i64 fe),(.i .i64 fu)])] gA.2).bind fun jR=>
 (AV.ay 2 jR.1).bind fun HQ=>
 (AV.asAgg 3 (HQ.getD 0 .u)).bind fun BW=>
 aq BW 0 fun nY=>
 aq BW 1 fun we=>
 aq BW 2 fun pr=>
 aq HQ 1 fun BR=>
 Option.bind p0 fun oX=>
 (jR.2.st oX.1 (oX.2+5) [(.i .i64 nY),(.i .i64 we),(.i .i64 pr)]).bind fun Ou=>
 Option.bind p0 fun q36=>
 (Ou.st q36.1 (q36.2+2) [(.i .i64 0),(.i .i64 0),(.i .i64 0)]).bind fun Ov=>
 Option.bind p0 fun ZV=>
 (Ov.st ZV.1 (ZV.2+9) [(.i .i64 0)]).bind fun h39=>
 some ((.aB []),h39)
 else none
def qnu:Sm O:=qnt NH qnp
theorem qnv:ag Tryz.prog 52:=Tryz.call52
theorem qnw (gC O8:Sm O):run (O:=O) Tryz.prog [(100,gC),(101,O8)] Tryz.f52 (.n .z (.n (.d [] [0,1,3,4,5,6,7,8,9,10,2,11,12,13,14,15,16,17] [0,0,2,0,8,24,56,0,128,384,896,2046,4094,8190,8190,16383,49151,114687]) .z))=qnt gC O8:=by kernel_rfl
theorem qny:ai RO Tryz.prog 52 qnu:=bJ (qnw _ _) (ae qho qhq <| ae qnq qns <| aE) Tryz.func52 (by kernel_rfl)
def qnz (lO Fk k51 qD k52:Sm O):Sm O:=fun xs h=>
 bif Nat.beq xs.length 1 then
 (AV.bD (xs.getD 0 .u)).bind fun p0=>
 Option.bind p0 fun q1=>
 cD h q1.1 q1.2 fun p3=>
 (lO [(.p p3)] h).bind fun r4=>
 (AV.bD r4.1).bind fun p5=>
 (Fk [(.p p5)] r4.2).bind fun r6=>
 (AV.aX .i64 r6.1).bind fun n7=>
 (k51 [(.p p5),(.i .i64 n7)] r6.2).bind fun r8=>
 (AV.aX .i64 r8.1).bind fun n9=>
 (bif ((n9:Int) != 0) then
 some ((.i .i64 n9),r8.2)
 else Option.bind p0 fun kW=>
 cD r8.2 kW.1 kW.2 fun BL=>
 (qD [(.p BL)] r8.2).bind fun fk=>
 (AV.bD fk.1).bind fun p14=>
 (k52 [(.p p14)] fk.2).bind fun fN=>
 (AV.ay 0 fN.1).bind fun sG=>
 some ((.i .i64 0),fN.2))
 else none
def Yn:Sm O:=qnz BC QE qnk El qnu
theorem qn1:ag Tryz.prog 11:=Tryz.call11
theorem qn2 (lO Fk k51 qD k52:Sm O):run (O:=O) Tryz.prog [(23,lO),(24,Fk),(51,k51),(32,qD),(52,k52)] Tryz.f11 (.n .z (.n .z (.n (.n .z (.n .z (.n .z .z))) (.n .z .z))))=qnz lO Fk k51 qD k52:=by kernel_rfl
theorem qn3:ai RO Tryz.prog 11 Yn:=bJ (qn2 _ _ _ _ _) (ae TD TE <| ae qng qni <| ae qnl qnn <| ae VD VE <| ae qnv qny <| aE) Tryz.func11 (by kernel_rfl)
def qn4 (qC:Sm O):Sm O:=fun xs h=>
 bif Nat.beq xs.length 3 then
 (AV.bD (xs.getD 0 .u)).bind fun p0=>
 aq xs 1 fun n1=>
 aq xs 2 fun n2=>
 Option.bind p0 fun q3=>
 (h.ld q3.1 (q3.2+5)).bind fun w4=>
 (AV.aZ w4).bind fun b5=>
 (bif (!b5) then
 some ((.i .i64 4),h)
 else Option.bind p0 fun q6=>
 aj h q6.1 (q6.2+3) fun n8=>
 aj h q6.1 ((q6.2+3)+1) fun eO=>
 (qC [(.agg [(.i .i64 n8),(.i .i64 eO)]),(.i .i64 n1),(.i .i64 n2)] h).bind fun eQ=>
 (AV.aZ eQ.1).bind fun vY=>
 (bif (!vY) then
 some ((.i .i64 11),eQ.2)
 else some ((.i .i64 0),eQ.2)))
 else none
def Vb:Sm O:=qn4 Mc
theorem qn6:ag Tryz.prog 116:=Tryz.call116
theorem qn7 (qC:Sm O):run (O:=O) Tryz.prog [(143,qC)] Tryz.f116 (.n .z (.n (.n (.n .z (.n .z (.n .z (.n .z .z)))) .z) .z))=qn4 qC:=by kernel_rfl
theorem qn8:ai RO Tryz.prog 116 Vb:=bJ (qn7 _) (ae qjw qjy <| aE) Tryz.func116 (by kernel_rfl)
def qn9 (qE eX:Sm O):Sm O:=fun xs h=>
 bif Nat.beq xs.length 2 then
 (AV.bD (xs.getD 0 .u)).bind fun p0=>
 aq xs 1 fun n1=>
 (qE [(.p p0),(.i .i64 n1),(.i .i64 1)] h).bind fun r2=>
 (AV.aX .i64 r2.1).bind fun n3=>
 (bif ((n3:Int) != 0) then
 some ((.aB [(.i .u64 0),(.i .i64 n3)]),r2.2)
 else Option.bind p0 fun q4=>
 cD r2.2 q4.1 q4.2 fun p6=>
 Option.bind p0 fun q7=>
 aj r2.2 q7.1 (q7.2+3) fun n9=>
 (eX [(.p p6),(.i .i64 n9),(.i .i64 n1)] r2.2).bind fun du=>
 (AV.ay 2 du.1).bind fun rW=>
 cV rW 0 fun eD=>
 aq rW 1 fun fc=>
 some ((.aB [(.i .u64 eD),(.i .i64 fc)]),du.2))
 else none
def Yi:Sm O:=qn9 Vb yN
theorem qob:ag Tryz.prog 62:=Tryz.call62
theorem qoc (qE eX:Sm O):run (O:=O) Tryz.prog [(116,qE),(117,eX)] Tryz.f62 (.n .z (.n (.n .z (.n .z (.n .z .z))) (.n (.d [] [0,1,2,3,4,5,6,7,8,9,10,11,12,13,14] [0,1,3,7,0,16,48,112,240,0,1023,2047,2047,8191,16383]) .z)))=qn9 qE eX:=by kernel_rfl
theorem qod:ai RO Tryz.prog 62 Yi:=bJ (qoc _ _) (ae qn6 qn8 <| ae TK TL <| aE) Tryz.func62 (by kernel_rfl)
def qoe:Sm O:=fun xs h=>
 bif Nat.beq xs.length 0 then
 let h0:=h.az 1
 let h1:=h0.put h.next (.cells true 195 [(.i .i64 0),(.i .i64 0)])
 (h1.st (.n h.next) 0 [(.i .i64 0),(.i .i64 40)]).bind fun h2=>
 aj h2 (.n h.next) 0 fun n4=>
 aj h2 (.n h.next) 1 fun n6=>
 some ((.agg [(.i .i64 n4),(.i .i64 n6)]),h2)
 else none
def qof:Sm O:=qoe
theorem qog:ag Tryz.prog 118:=Tryz.call118
theorem qoh:run (O:=O) Tryz.prog [] Tryz.f118 (.n .z .z)=qoe:=by kernel_rfl
theorem qoi:ai RO Tryz.prog 118 qof:=bJ qoh (aE) Tryz.func118 (by kernel_rfl)
def qoj (sS:Sm O):Sm O:=fun xs h=>
 bif Nat.beq xs.length 1 then
 aq xs 0 fun n0=>
 (sS [(.i .i64 n0),(.i .i64 4194303)] h).bind fun r1=>
 (AV.aZ r1.1).bind fun b2=>
 (bif (!b2) then
 some ((.aB [(.i .u64 0),(.i .i64 2)]),r1.2)
 else let v3:Int:=(bG .or .u64 9223372036854775808 (IntKind.u64.wrap n0))
 some ((.aB [(.i .u64 v3),(.i .i64 0)]),r1.2))
 else none
def SH:Sm O:=qoj U2
theorem qol:ag Tryz.prog 104:=Tryz.call104
theorem qom (sS:Sm O):run (O:=O) Tryz.prog [(151,sS)] Tryz.f104 (.n .z (.n (.n .z (.n .z .z)) .z))=qoj sS:=by kernel_rfl
theorem qon:ai RO Tryz.prog 104 SH:=bJ (qom _) (ae qcq qcs <| aE) Tryz.func104 (by kernel_rfl)
def qoo (O9 vg zx:Sm O):Sm O:=fun xs h=>
 bif Nat.beq xs.length 1 then
 cV xs 0 fun n0=>
 (O9 [] h).bind fun r1=>
 (AV.asAgg 2 r1.1).bind fun c2=>
 aq c2 0 fun n3=>
 aq c2 1 fun n4=>
 (vg [(.i .u64 n0),(.agg [(.i .i64 n3),(.i .i64 n4)])] r1.2).bind fun r5=>
 (AV.aX .u64 r5.1).bind fun n6=>
 (zx [(.i .i64 (IntKind.i64.wrap n6))] r5.2).bind fun r7=>
 (AV.ay 2 r7.1).bind fun c8=>
 cV c8 0 fun n9=>
 aq c8 1 fun eO=>
 ((bif (((eO:Int) != 0) == false) then
 some ([(.b ((n9:Int) != n0))],r7.2)
 else some ([(.b true)],r7.2)):Option (List AV × AH O)).bind fun eQ=>
 (AV.aZ (eQ.1.getD 0 .u)).bind fun vY=>
 (bif vY then
 some ((.aB [(.i .i64 0),(.b false)]),eQ.2)
 else some ((.aB [(.i .i64 (IntKind.i64.wrap n6)),(.b true)]),eQ.2))
 else none
def SI:Sm O:=qoo qof U1 SH
theorem qoq:ag Tryz.prog 64:=Tryz.call64
theorem qor (O9 vg zx:Sm O):run (O:=O) Tryz.prog [(118,O9),(111,vg),(104,zx)] Tryz.f64 (.n .z (.n .z (.n (.n .z (.n (.g [(2,3,[(22,.one .b)])]) (.n .z .z))) .z)))=qoo O9 vg zx:=by kernel_rfl
theorem qos:ai RO Tryz.prog 64 SI:=bJ (qor _ _ _) (ae qog qoi <| ae qlp qlr <| ae qol qon <| aE) Tryz.func64 (by kernel_rfl)
def QK (kv kz:Sm O):Sm O:=fun xs h=>
 bif Nat.beq xs.length 6 then
 (AV.bD (xs.getD 0 .u)).bind fun p0=>
 aq xs 1 fun n1=>
 aq xs 2 fun n2=>
 aq xs 3 fun n3=>
 aq xs 4 fun n4=>
 aq xs 5 fun n5=>
 (kv [(.p p0),(.i .i64 n1),(.i .i64 n2),(.i .i64 n5)] h).bind fun r6=>
 (AV.ay 2 r6.1).bind fun c7=>
 dx c7 0 fun l8=>
 aq c7 1 fun n9=>
 (kv [(.p p0),(.i .i64 n3),(.i .i64 n4),(.i .i64 n5)] r6.2).bind fun du=>
 (AV.ay 2 du.1).bind fun rW=>
 dx rW 0 fun yZ=>
 aq rW 1 fun fc=>
 ((bif (((n9:Int) == 10) == false) then
 some ([(.b ((fc:Int) == 10))],du.2)
 else some ([(.b true)],du.2)):Option (List AV × AH O)).bind fun kY=>
 (AV.aZ (kY.1.getD 0 .u)).bind fun TF=>
 (bif TF then
 some ((.i .i64 10),kY.2)
 else ((bif (((n9:Int) != 0) == false) then
 some ([(.b ((fc:Int) != 0))],kY.2)
 else some ([(.b true)],kY.2)):Option (List AV × AH O)).bind fun iO=>
 (AV.aZ (iO.1.getD 0 .u)).bind fun GM=>
 (bif GM then
 some ((.i .i64 11),iO.2)
 else Option.bind p0 fun BN=>
 cD iO.2 BN.1 BN.2 fun Rl=>
 (kz [(.p Rl),(.i .i64 0),(.i .i64 n5)] iO.2).bind fun tD=>
 (AV.ay 0 tD.1).bind fun Q0=>
 Option.bind p0 fun EZ=>
 cD tD.2 EZ.1 EZ.2 fun p25=>
 (kz [(.p p25),(.i .i64 1),(.i .i64 n5)] tD.2).bind fun lC=>
 (AV.ay 0 lC.1).bind fun E0=>
 (bif Nat.beq (min l8.2 yZ.2) 0 then
 some ((.i .i64 0),lC.2)
 else
 (lC.2.bT l8.1 (min l8.2 yZ.2) 1).bind fun BW=>
 (lC.2.zU yZ.1 BW).bind fun GK=>
 some ((.i .i64 0),GK))))
 else none
def HB:Sm O:=QK Df KB
theorem qov:ag Tryz.prog 150:=Tryz.call150
theorem qow (kv kz:Sm O):run (O:=O) Tryz.prog [(156,kv),(157,kz)] Tryz.f150 (.n .z (.n .z (.n .z (.n (.n (.n (.g [(2,2,[(39,.one .b)])]) (.n .z (.n (.g [(2,2,[(46,.one .b)])]) (.n .z .z)))) .z) (.n .z (.n .z (.n .z .z)))))))=QK kv kz:=by kernel_rfl
theorem qox:ai RO Tryz.prog 150 HB:=bJ (qow _ _) (ae qfg qfi <| ae qf0 qf2 <| aE) Tryz.func150 (by kernel_rfl)
def qoy (qE OQ Pa:Sm O):Sm O:=fun xs h=>
 bif Nat.beq xs.length 3 then
 (AV.bD (xs.getD 0 .u)).bind fun p0=>
 aq xs 1 fun n1=>
 aq xs 2 fun n2=>
 (qE [(.p p0),(.i .i64 n1),(.i .i64 n2)] h).bind fun r3=>
 (AV.aX .i64 r3.1).bind fun n4=>
 (bif ((n4:Int) != 0) then
 some ((.aB [(.i .i64 0),(.i .i64 n4)]),r3.2)
 else (OQ [(.p p0),(.i .i64 n2)] r3.2).bind fun r5=>
 (AV.ay 2 r5.1).bind fun c6=>
 aq c6 0 fun n7=>
 aq c6 1 fun n8=>
 (bif ((n8:Int) != 0) then
 some ((.aB [(.i .i64 0),(.i .i64 n8)]),r5.2)
 else Option.bind p0 fun q9=>
 cD r5.2 q9.1 q9.2 fun HP=>
 Option.bind p0 fun px=>
 aj r5.2 px.1 (px.2+3) fun iX=>
 Option.bind p0 fun lh=>
 aj r5.2 lh.1 (lh.2+1) fun fe=>
 (Pa [(.p HP),(.i .i64 iX),(.i .i64 n1),(.i .i64 fe),(.i .i64 n7),(.i .i64 n2)] r5.2).bind fun iY=>
 (AV.aX .i64 iY.1).bind fun fu=>
 some ((.aB [(.i .i64 n7),(.i .i64 fu)]),iY.2)))
 else none
def qoz:Sm O:=qoy Vb X7 HB
theorem qo0:ag Tryz.prog 102:=Tryz.call102
theorem qo1 (qE OQ Pa:Sm O):run (O:=O) Tryz.prog [(116,qE),(92,OQ),(150,Pa)] Tryz.f102 (.n .z (.n (.n .z (.n .z (.n .z .z))) (.n .z (.n (.n .z (.n .z .z)) (.n (.d [] [0,1,2,3,4,5,6,7,8,9,10,11,12,13,14,15,16,17,18,19,20] [0,0,2,6,14,0,32,96,224,480,0,0,2048,6144,14336,30720,0,0,262142,524287,1048575]) .z)))))=qoy qE OQ Pa:=by kernel_rfl
theorem qo2:ai RO Tryz.prog 102 qoz:=bJ (qo1 _ _ _) (ae qn6 qn8 <| ae qjr qjt <| ae qov qox <| aE) Tryz.func102 (by kernel_rfl)
def qo3 (sW Ff:Sm O):Sm O:=fun xs h=>
 bif Nat.beq xs.length 1 then
 cV xs 0 fun n0=>
 let h1:=h.az 1
 (sW [(.i .u64 n0)] h1).bind fun r2=>
 (AV.ay 2 r2.1).bind fun c3=>
 (AV.asAgg 5 (c3.getD 0 .u)).bind fun c4=>
 aq c4 0 fun n5=>
 aq c4 1 fun n6=>
 aq c4 2 fun n7=>
 aq c4 3 fun n8=>
 (AV.aZ (c4.getD 4 .u)).bind fun b9=>
 aq c3 1 fun eO=>
 let iq:=r2.2.put h.next (.cells true 39 [(.i .i64 0),(.i .i64 0),(.i .i64 0),(.i .i64 0),(.b false)])
 (iq.st (.n h.next) 0 [(.i .i64 n5),(.i .i64 n6),(.i .i64 n7),(.i .i64 n8),(.b b9)]).bind fun mS=>
 (bif ((eO:Int) != 0) then
 some ((.aB [(.i .u64 0),(.i .i64 eO)]),mS)
 else aj mS (.n h.next) 3 fun iX=>
 let Zo:Int:=(if 7<(IntKind.i64.wrap (iX+1)) then 7 else (IntKind.i64.wrap (iX+1)))
 (mS.st (.n h.next) 3 [(.i .i64 Zo)]).bind fun vZ=>
 aj vZ (.n h.next) 0 fun iB=>
 aj vZ (.n h.next) 1 fun jU=>
 aj vZ (.n h.next) 2 fun iA=>
 aj vZ (.n h.next) 3 fun nq=>
 (vZ.ld (.n h.next) 4).bind fun w25=>
 (AV.aZ w25).bind fun b26=>
 (Ff [(.agg [(.i .i64 iB),(.i .i64 jU),(.i .i64 iA),(.i .i64 nq),(.b b26)])] vZ).bind fun jR=>
 (AV.ay 2 jR.1).bind fun HQ=>
 cV HQ 0 fun vq=>
 aq HQ 1 fun nY=>
 some ((.aB [(.i .u64 vq),(.i .i64 nY)]),jR.2))
 else none
def Yd:Sm O:=qo3 Mb U3
theorem qo5:ag Tryz.prog 103:=Tryz.call103
theorem qo6 (sW Ff:Sm O):run (O:=O) Tryz.prog [(57,sW),(87,Ff)] Tryz.f103 (.n .z (.n .z (.n (.n .z (.n .z .z)) (.n .z .z))))=qo3 sW Ff:=by kernel_rfl
theorem qo7:ai RO Tryz.prog 103 Yd:=bJ (qo6 _ _) (ae qlv qlx <| ae qem qeo <| aE) Tryz.func103 (by kernel_rfl)
def qo8 (qE eS:Sm O):Sm O:=fun xs h=>
 bif Nat.beq xs.length 3 then
 (AV.bD (xs.getD 0 .u)).bind fun p0=>
 aq xs 1 fun n1=>
 cV xs 2 fun n2=>
 (qE [(.p p0),(.i .i64 n1),(.i .i64 1)] h).bind fun r3=>
 (AV.aX .i64 r3.1).bind fun n4=>
 (bif ((n4:Int) != 0) then
 some ((.i .i64 n4),r3.2)
 else Option.bind p0 fun q5=>
 cD r3.2 q5.1 q5.2 fun p7=>
 Option.bind p0 fun q8=>
 aj r3.2 q8.1 (q8.2+3) fun eO=>
 (eS [(.p p7),(.i .i64 eO),(.i .i64 n1),(.i .u64 n2)] r3.2).bind fun eQ=>
 (AV.aX .i64 eQ.1).bind fun eD=>
 some ((.i .i64 eD),eQ.2))
 else none
def qo9:Sm O:=qo8 Vb yO
theorem qpa:ag Tryz.prog 105:=Tryz.call105
theorem qpb (qE eS:Sm O):run (O:=O) Tryz.prog [(116,qE),(141,eS)] Tryz.f105 (.n .z (.n (.n .z (.n .z (.n .z .z))) (.n (.d [] [0,1,2,3,4,5,6,7,8,9,10,11,12] [0,1,3,7,0,16,48,112,240,0,0,2047,4095]) .z)))=qo8 qE eS:=by kernel_rfl
theorem qpc:ai RO Tryz.prog 105 qo9:=bJ (qpb _ _) (ae qn6 qn8 <| ae TI TJ <| aE) Tryz.func105 (by kernel_rfl)
def qpd:Sm O:=fun xs h=>
 bif Nat.beq xs.length 2 then
 (AV.asAgg 5 (xs.getD 0 .u)).bind fun c0=>
 aq c0 0 fun n1=>
 aq c0 1 fun n2=>
 aq c0 2 fun n3=>
 aq c0 3 fun n4=>
 (AV.aZ (c0.getD 4 .u)).bind fun b5=>
 let h6:=h.az 1
 let h7:=h6.put h.next (.cells true 39 [(.i .i64 n1),(.i .i64 n2),(.i .i64 n3),(.i .i64 n4),(.b b5)])
 let h8:=h7.az 2
 (AV.kC (xs.getD 1 .u)).bind fun q9=>
 aV h8 q9.1 q9.2 fun jw=>
 aj h8 (.n h.next) 0 fun fc=>
 aj h8 (.n h.next) 1 fun fR=>
 aj h8 (.n h.next) 2 fun fe=>
 aj h8 (.n h.next) 3 fun fu=>
 (h8.ld (.n h.next) 4).bind fun Z9=>
 (AV.aZ Z9).bind fun Ox=>
 let G0:=h8.put h7.next (.cells true 39 [(.i .i64 fc),(.i .i64 fR),(.i .i64 fe),(.i .i64 fu),(.b Ox)])
 (G0.bT (.loc (.n h7.next) 0 5) 1 5).bind fun aaW=>
 (bif (Nat.ble ((jw.2+1)*41) 35184372088832) then
 (G0.cF (h7.next+1) 39 5 jw.1 jw.2 1 aaW).bind fun kZ=>
 (AV.dF kZ.1).bind fun Lk=>
 (AV.kC (xs.getD 1 .u)).bind fun Q1=>
 (kZ.2.st Q1.1 Q1.2 [(.sl Lk.1 Lk.2)]).bind fun zg=>
 some ((.aB []),zg)
 else none)
 else none
def qpe:Sm O:=qpd
theorem qpf:ag Tryz.prog 15:=Tryz.call15
theorem qpg:run (O:=O) Tryz.prog [] Tryz.f15 .z=qpd:=by kernel_rfl
theorem qph:ai RO Tryz.prog 15 qpe:=bJ qpg (aE) Tryz.func15 (by kernel_rfl)
def qpi (sW Rk k15:Sm O):Sm O:=fun xs h=>
 bif Nat.beq xs.length 2 then
 (AV.bD (xs.getD 0 .u)).bind fun p0=>
 cV xs 1 fun n1=>
 let h2:=h.az 1
 (sW [(.i .u64 n1)] h2).bind fun r3=>
 (AV.ay 2 r3.1).bind fun c4=>
 (AV.asAgg 5 (c4.getD 0 .u)).bind fun c5=>
 aq c5 0 fun n6=>
 aq c5 1 fun n7=>
 aq c5 2 fun n8=>
 aq c5 3 fun n9=>
 (AV.aZ (c5.getD 4 .u)).bind fun GN=>
 aq c4 1 fun fy=>
 let mS:=r3.2.put h.next (.cells true 39 [(.i .i64 0),(.i .i64 0),(.i .i64 0),(.i .i64 0),(.b false)])
 (mS.st (.n h.next) 0 [(.i .i64 n6),(.i .i64 n7),(.i .i64 n8),(.i .i64 n9),(.b GN)]).bind fun jy=>
 Option.bind p0 fun jx=>
 aj jy jx.1 (jx.2+2) fun iQ=>
 Option.bind p0 fun sD=>
 (jy.st sD.1 (sD.2+2) [(.i .i64 (IntKind.i64.wrap (iQ+1)))]).bind fun zK=>
 Option.bind p0 fun GR=>
 (zK.ld GR.1 (GR.2+1)).bind fun Z9=>
 (AV.Hk Z9).bind fun f21=>
 aj zK (.n h.next) 0 fun fj=>
 aj zK (.n h.next) 1 fun oZ=>
 aj zK (.n h.next) 2 fun qK=>
 aj zK (.n h.next) 3 fun vq=>
 (zK.ld (.n h.next) 4).bind fun w30=>
 (AV.aZ w30).bind fun b31=>
 (pB [(57,sW),(50,Rk),(15,k15)] f21 [(.agg [(.i .i64 fj),(.i .i64 oZ),(.i .i64 qK),(.i .i64 vq),(.b b31)])] zK).bind fun TB=>
 (AV.ay 0 TB.1).bind fun c33=>
 some ((.aB []),TB.2)
 else none
def Yl:Sm O:=qpi Mb Vc qpe
theorem qpk:ag Tryz.prog 106:=Tryz.call106
theorem qpl (sW Rk k15:Sm O):run (O:=O) Tryz.prog [(57,sW),(50,Rk),(15,k15)] Tryz.f106 (.n .z (.n .z (.d [] [0,1,2,3,4,5] [0,1,3,7,0,31])))=qpi sW Rk k15:=by kernel_rfl
theorem qpm:ai RO Tryz.prog 106 Yl:=bJ (qpl _ _ _) (ae qlv qlx <| ae qm1 qm3 <| ae qpf qph <| aE) Tryz.func106 (by kernel_rfl)
def qpn (lO o9 Pb Pc xO sW xK Pd zy Fh zx Pe zA:Sm O):Sm O:=fun xs h=>
 bif Nat.beq xs.length 2 then
 (AV.bD (xs.getD 0 .u)).bind fun p0=>
 cV xs 1 fun n1=>
 Option.bind p0 fun q2=>
 cD h q2.1 q2.2 fun p4=>
 (lO [(.p p4)] h).bind fun r5=>
 (AV.bD r5.1).bind fun p6=>
 (o9 [(.i .u64 n1)] r5.2).bind fun r7=>
 (AV.aX .i64 r7.1).bind fun n8=>
 (Pb [(.p p6),(.i .i64 n8)] r7.2).bind fun r9=>
 (AV.ay 2 r9.1).bind fun BK=>
 cV BK 0 fun fy=>
 aq BK 1 fun eD=>
 (bif ((eD:Int) != 0) then
 some ((.i .u64 n1),r9.2)
 else (Pc [(.i .u64 fy)] r9.2).bind fun fk=>
 (AV.ay 2 fk.1).bind fun GZ=>
 aq GZ 0 fun fR=>
 (AV.aZ (GZ.getD 1 .u)).bind fun TU=>
 (bif TU then
 (xO [(.i .i64 fR)] fk.2).bind fun dZ=>
 (AV.ay 2 dZ.1).bind fun Rm=>
 cV Rm 0 fun fu=>
 aq Rm 1 fun jU=>
 some ((.i .u64 fu),dZ.2)
 else let GU:=fk.2.az 1
 (sW [(.i .u64 fy)] GU).bind fun fU=>
 (AV.ay 2 fU.1).bind fun Q3=>
 (AV.asAgg 5 (Q3.getD 0 .u)).bind fun HR=>
 aq HR 0 fun oZ=>
 aq HR 1 fun eN=>
 aq HR 2 fun qK=>
 aq HR 3 fun qw=>
 (AV.aZ (HR.getD 4 .u)).bind fun TO=>
 aq Q3 1 fun nY=>
 let EW:=fU.2.put fk.2.next (.cells true 39 [(.i .i64 0),(.i .i64 0),(.i .i64 0),(.i .i64 0),(.b false)])
 (EW.st (.n fk.2.next) 0 [(.i .i64 oZ),(.i .i64 eN),(.i .i64 qK),(.i .i64 qw),(.b TO)]).bind fun BV=>
 (bif ((nY:Int) != 0) then
 some ((.i .u64 n1),BV)
 else aj BV (.n fk.2.next) 0 fun tJ=>
 aj BV (.n fk.2.next) 1 fun rU=>
 aj BV (.n fk.2.next) 2 fun K8=>
 aj BV (.n fk.2.next) 3 fun QR=>
 (BV.ld (.n fk.2.next) 4).bind fun w41=>
 (AV.aZ w41).bind fun b42=>
 (o9 [(.i .u64 n1)] BV).bind fun vu=>
 (AV.aX .i64 vu.1).bind fun Ms=>
 (aT (vu.2.ld (.n fk.2.next) 0) (some (.i .i64 tJ))).bind fun _=>
 (aT (vu.2.ld (.n fk.2.next) 1) (some (.i .i64 rU))).bind fun _=>
 (aT (vu.2.ld (.n fk.2.next) 2) (some (.i .i64 K8))).bind fun _=>
 (aT (vu.2.ld (.n fk.2.next) 3) (some (.i .i64 QR))).bind fun _=>
 (aT (vu.2.ld (.n fk.2.next) 4) (some (.b b42))).bind fun _=>
 (xK [(.agg [(.i .i64 tJ),(.i .i64 rU),(.i .i64 K8),(.i .i64 QR),(.b b42)])] vu.2).bind fun LJ=>
 (AV.aX .i64 LJ.1).bind fun Ll=>
 (Pd [(.p p6),(.i .i64 Ms),(.i .i64 Ll)] LJ.2).bind fun BP=>
 (AV.ay 2 BP.1).bind fun c48=>
 aq c48 0 fun sH=>
 aq c48 1 fun za=>
 (bif ((za:Int) != 0) then
 some ((.i .u64 n1),BP.2)
 else (zy [(.i .u64 fy)] BP.2).bind fun r51=>
 (AV.ay 2 r51.1).bind fun c52=>
 cV c52 0 fun Mq=>
 aq c52 1 fun BS=>
 (Fh [(.p p6),(.i .i64 sH),(.i .u64 Mq)] r51.2).bind fun r55=>
 (AV.aX .i64 r55.1).bind fun DD=>
 (zx [(.i .i64 sH)] r55.2).bind fun VQ=>
 (AV.ay 2 VQ.1).bind fun c58=>
 cV c58 0 fun GW=>
 aq c58 1 fun BQ=>
 (o9 [(.i .u64 n1)] VQ.2).bind fun ve=>
 (AV.aX .i64 ve.1).bind fun OH=>
 (Pe [(.p p6),(.i .i64 OH),(.i .u64 GW)] ve.2).bind fun r63=>
 (AV.aX .i64 r63.1).bind fun AL=>
 (zA [(.p p0),(.i .u64 Mq)] r63.2).bind fun DJ=>
 (AV.ay 0 DJ.1).bind fun VX=>
 (xO [(.i .i64 sH)] DJ.2).bind fun VY=>
 (AV.ay 2 VY.1).bind fun c68=>
 cV c68 0 fun Gy=>
 aq c68 1 fun VO=>
 some ((.i .u64 Gy),VY.2)))))
 else none
def Ve:Sm O:=qpn BC Md Yi SI SE Mb SF qoz Yd U' SH qo9 Yl
theorem qpp:ag Tryz.prog 54:=Tryz.call54
theorem qpq (lO o9 Pb Pc xO sW xK Pd zy Fh zx Pe zA:Sm O):run (O:=O) Tryz.prog [(23,lO),(63,o9),(62,Pb),(64,Pc),(65,xO),(57,sW),(89,xK),(102,Pd),(103,zy),(93,Fh),(104,zx),(105,Pe),(106,zA)] Tryz.f54 (.n .z (.n .z (.n .z (.n (.n .z (.n .z .z)) (.n (.n .z (.n .z (.n (.n .z .z) .z))) (.n .z (.n (.n .z (.n .z .z)) (.n (.d [] [0,1,3,2,4,5,6,7,8,9,10] [0,0,2,0,14,31,63,127,127,255,1023]) (.n (.n .z (.n .z .z)) (.n .z (.n .z (.n .z (.n .z (.n .z (.n .z .z)))))))))))))))=qpn lO o9 Pb Pc xO sW xK Pd zy Fh zx Pe zA:=by kernel_rfl
theorem qpr:ai RO Tryz.prog 54 Ve:=bJ (qpq _ _ _ _ _ _ _ _ _ _ _ _ _) (ae TD TE <| ae qk5 qk7 <| ae qob qod <| ae qoq qos <| ae qj6 qj8 <| ae qlv qlx <| ae qc5 qc7 <| ae qo0 qo2 <| ae qo5 qo7 <| ae qj1 qj3 <| ae qol qon <| ae qpa qpc <| ae qpk qpm <| aE) Tryz.func54 (by kernel_rfl)
def qps (eF:Sm O):Sm O:=fun xs h=>
 bif Nat.beq xs.length 2 then
 (AV.bD (xs.getD 0 .u)).bind fun p0=>
 aq xs 1 fun n1=>
 Option.bind p0 fun q2=>
 cD h q2.1 (q2.2+1) fun p4=>
 (eF [(.p p4),(.i .i64 n1),(.i .i64 4)] h).bind fun r5=>
 (AV.ay 2 r5.1).bind fun c6=>
 cV c6 0 fun n7=>
 aq c6 1 fun n8=>
 ((bif (((n8:Int) == 0) == true) then
 Option.bind p0 fun q9=>
 gO r5.2 q9.1 (q9.2+8) fun fy=>
 some ([(.b ((n7:Int) == fy))],r5.2)
 else some ([(.b false)],r5.2)):Option (List AV × AH O)).bind fun iS=>
 (AV.aZ (iS.1.getD 0 .u)).bind fun OK=>
 some ((.aB [(.b OK),(.i .i64 n8)]),iS.2)
 else none
def XU:Sm O:=qps BF
theorem qpu:ag Tryz.prog 66:=Tryz.call66
theorem qpv (eF:Sm O):run (O:=O) Tryz.prog [(119,eF)] Tryz.f66 (.n .z (.n .z (.n (.g [(2,6,[(26,.one .b)])]) .z)))=qps eF:=by kernel_rfl
theorem qpw:ai RO Tryz.prog 66 XU:=bJ (qpv _) (ae TS TT <| aE) Tryz.func66 (by kernel_rfl)
def qpx (zm eX:Sm O):Sm O:=fun xs h=>
 bif Nat.beq xs.length 3 then
 (AV.asAgg 5 (xs.getD 0 .u)).bind fun c0=>
 (AV.bD (c0.getD 0 .u)).bind fun p1=>
 aq c0 1 fun n2=>
 aq c0 2 fun n3=>
 aq c0 3 fun n4=>
 aq c0 4 fun n5=>
 aq xs 1 fun n6=>
 aq xs 2 fun n7=>
 let h8:=h.az 1
 let h9:=h8.put h.next (.cells true 184 [(.p p1),(.i .i64 n2),(.i .i64 n3),(.i .i64 n4),(.i .i64 n5)])
 cD h9 (.n h.next) 0 fun HP=>
 aj h9 (.n h.next) 1 fun fc=>
 cD h9 (.n h.next) 0 fun GV=>
 aj h9 (.n h.next) 1 fun fe=>
 aj h9 (.n h.next) 2 fun fu=>
 aj h9 (.n h.next) 3 fun lM=>
 aj h9 (.n h.next) 4 fun fj=>
 (zm [(.agg [(.p GV),(.i .i64 fe),(.i .i64 fu),(.i .i64 lM),(.i .i64 fj)]),(.i .i64 n6),(.i .i64 n7)] h9).bind fun kZ=>
 (AV.aX .i64 kZ.1).bind fun oZ=>
 (aT (kZ.2.ld (.n h.next) 0) (some (.p HP))).bind fun _=>
 (aT (kZ.2.ld (.n h.next) 1) (some (.i .i64 fc))).bind fun _=>
 (eX [(.p HP),(.i .i64 fc),(.i .i64 oZ)] kZ.2).bind fun lC=>
 (AV.ay 2 lC.1).bind fun E0=>
 cV E0 0 fun qw=>
 aq E0 1 fun vq=>
 some ((.i .i64 (IntKind.i64.wrap qw)),lC.2)
 else none
def XG:Sm O:=qpx XF yN
theorem qpz:ag Tryz.prog 166:=Tryz.call166
theorem qp0 (zm eX:Sm O):run (O:=O) Tryz.prog [(178,zm),(117,eX)] Tryz.f166 (.n .z (.n (.d [] [0,1,2,3,4,5,6,7,8,9,10,11,12,13] [0,1,0,4,0,0,0,112,255,511,1023,1023,2047,8191]) .z))=qpx zm eX:=by kernel_rfl
theorem qp1:ai RO Tryz.prog 166 XG:=bJ (qp0 _ _) (ae qii qik <| ae TK TL <| aE) Tryz.func166 (by kernel_rfl)
def qp2 (qA wk lL:Sm O):Sm O:=fun xs h=>
 bif Nat.beq xs.length 3 then
 (AV.asAgg 5 (xs.getD 0 .u)).bind fun c0=>
 (AV.bD (c0.getD 0 .u)).bind fun p1=>
 aq c0 1 fun n2=>
 aq c0 2 fun n3=>
 aq c0 3 fun n4=>
 aq c0 4 fun n5=>
 (AV.asAgg 3 (xs.getD 1 .u)).bind fun c6=>
 aq c6 0 fun n7=>
 aq c6 1 fun n8=>
 aq c6 2 fun n9=>
 aq xs 2 fun eO=>
 let iq:=h.az 3
 let mS:=iq.put h.next (.cells true 184 [(.p p1),(.i .i64 n2),(.i .i64 n3),(.i .i64 n4),(.i .i64 n5)])
 let jy:=mS.put (h.next+1) (.cells true 155 [(.i .i64 n7),(.i .i64 n8),(.i .i64 n9)])
 let mQ:=jy.put ((h.next+1)+1) (.cells true 155 [(.i .i64 0),(.i .i64 0),(.i .i64 0)])
 cD mQ (.n h.next) 0 fun vd=>
 aj mQ (.n h.next) 1 fun iB=>
 aj mQ (.n h.next) 2 fun jU=>
 aj mQ (.n h.next) 3 fun iA=>
 aj mQ (.n h.next) 4 fun nq=>
 (qA [(.agg [(.p vd),(.i .i64 iB),(.i .i64 jU),(.i .i64 iA),(.i .i64 nq)]),(.i .i64 eO)] mQ).bind fun eJ=>
 (AV.aX .i64 eJ.1).bind fun eN=>
 (bif ((eN:Int) != 0) then
 aj eJ.2 (.n (h.next+1)) 0 fun qw=>
 aj eJ.2 (.n (h.next+1)) 1 fun nY=>
 aj eJ.2 (.n (h.next+1)) 2 fun pr=>
 (eJ.2.st (.n ((h.next+1)+1)) 0 [(.i .i64 qw),(.i .i64 nY),(.i .i64 pr)]).bind fun sU=>
 aj sU (.n ((h.next+1)+1)) 0 fun wg=>
 aj sU (.n ((h.next+1)+1)) 1 fun BO=>
 aj sU (.n ((h.next+1)+1)) 2 fun v9=>
 some ((.aB [(.agg [(.i .i64 wg),(.i .i64 BO),(.i .i64 v9)]),(.i .i64 eN)]),sU)
 else cD eJ.2 (.n h.next) 0 fun VM=>
 aj eJ.2 (.n h.next) 1 fun xM=>
 aj eJ.2 (.n h.next) 2 fun vr=>
 aj eJ.2 (.n h.next) 3 fun Lr=>
 aj eJ.2 (.n h.next) 4 fun sH=>
 aj eJ.2 (.n h.next) 3 fun Fa=>
 cD eJ.2 (.n h.next) 0 fun p53=>
 aj eJ.2 (.n h.next) 1 fun Lm=>
 aj eJ.2 (.n h.next) 2 fun GH=>
 aj eJ.2 (.n h.next) 3 fun GW=>
 aj eJ.2 (.n h.next) 4 fun QT=>
 aj eJ.2 (.n h.next) 4 fun Q5=>
 (wk [(.agg [(.p VM),(.i .i64 xM),(.i .i64 vr),(.i .i64 Lr),(.i .i64 sH)]),(.i .i64 eO),(.i .i64 Fa)] eJ.2).bind fun vh=>
 (AV.aX .i64 vh.1).bind fun Fb=>
 (aT (vh.2.ld (.n h.next) 0) (some (.p p53))).bind fun _=>
 (aT (vh.2.ld (.n h.next) 1) (some (.i .i64 Lm))).bind fun _=>
 (aT (vh.2.ld (.n h.next) 2) (some (.i .i64 GH))).bind fun _=>
 (aT (vh.2.ld (.n h.next) 3) (some (.i .i64 GW))).bind fun _=>
 (aT (vh.2.ld (.n h.next) 4) (some (.i .i64 QT))).bind fun _=>
 (aT (vh.2.ld (.n h.next) 4) (some (.i .i64 Q5))).bind fun _=>
 (wk [(.agg [(.p p53),(.i .i64 Lm),(.i .i64 GH),(.i .i64 GW),(.i .i64 QT)]),(.i .i64 eO),(.i .i64 Q5)] vh.2).bind fun oV=>
 (AV.aX .i64 oV.1).bind fun HO=>
 ((bif ((HO:Int) != 0) then
 cD oV.2 (.n h.next) 0 fun p69=>
 aj oV.2 (.n h.next) 1 fun HN=>
 aj oV.2 (.n h.next) 2 fun TM=>
 aj oV.2 (.n h.next) 3 fun VK=>
 aj oV.2 (.n h.next) 4 fun Fi=>
 aj oV.2 (.n h.next) 3 fun O0=>
 (lL [(.agg [(.p p69),(.i .i64 HN),(.i .i64 TM),(.i .i64 VK),(.i .i64 Fi)]),(.i .i64 HO),(.i .i64 O0),(.i .i64 Fb)] oV.2).bind fun G3=>
 (AV.ay 0 G3.1).bind fun c81=>
 some ([],G3.2)
 else (oV.2.st (.n (h.next+1)) 0 [(.i .i64 Fb)]).bind fun HJ=>
 some ([],HJ)):Option (List AV × AH O)).bind fun zL=>
 ((bif ((Fb:Int) != 0) then
 cD zL.2 (.n h.next) 0 fun p85=>
 aj zL.2 (.n h.next) 1 fun Lv=>
 aj zL.2 (.n h.next) 2 fun n89=>
 aj zL.2 (.n h.next) 3 fun n91=>
 aj zL.2 (.n h.next) 4 fun OR=>
 aj zL.2 (.n h.next) 4 fun n95=>
 (lL [(.agg [(.p p85),(.i .i64 Lv),(.i .i64 n89),(.i .i64 n91),(.i .i64 OR)]),(.i .i64 Fb),(.i .i64 n95),(.i .i64 HO)] zL.2).bind fun r96=>
 (AV.ay 0 r96.1).bind fun c97=>
 some ([],r96.2)
 else (zL.2.st (.n (h.next+1)) 1 [(.i .i64 HO)]).bind fun h98=>
 some ([],h98)):Option (List AV × AH O)).bind fun Pf=>
 aj Pf.2 (.n (h.next+1)) 2 fun zn=>
 (Pf.2.st (.n (h.next+1)) 2 [(.i .i64 (IntKind.i64.wrap (zn - 1)))]).bind fun Bg=>
 aj Bg (.n (h.next+1)) 0 fun LI=>
 aj Bg (.n (h.next+1)) 1 fun jA=>
 aj Bg (.n (h.next+1)) 2 fun G8=>
 (Bg.st (.n ((h.next+1)+1)) 0 [(.i .i64 LI),(.i .i64 jA),(.i .i64 G8)]).bind fun G9=>
 aj G9 (.n ((h.next+1)+1)) 0 fun zq=>
 aj G9 (.n ((h.next+1)+1)) 1 fun DI=>
 aj G9 (.n ((h.next+1)+1)) 2 fun Lx=>
 some ((.aB [(.agg [(.i .i64 zq),(.i .i64 DI),(.i .i64 Lx)]),(.i .i64 0)]),G9))
 else none
def qp3:Sm O:=qp2 UW XG UX
theorem qp4:ag Tryz.prog 152:=Tryz.call152
theorem qp5 (qA wk lL:Sm O):run (O:=O) Tryz.prog [(165,qA),(166,wk),(149,lL)] Tryz.f152 (.n .z (.n (.n .z (.n .z (.n .z .z))) (.n (.d [] [0,1,2,3,5,6,7,8,4,9,10,11] [0,0,0,4,15,0,0,0,128,511,1023,2047]) (.n (.n .z (.j false [] .z .z)) (.n (.n .z (.j false [] .z .z)) (.n .z .z))))))=qp2 qA wk lL:=by kernel_rfl
theorem qp6:ai RO Tryz.prog 152 qp3:=bJ (qp5 _ _ _) (ae qid qif <| ae qpz qp1 <| ae qin qip <| aE) Tryz.func152 (by kernel_rfl)
def qp7 (Pg gC Ph qB gB:Sm O):Sm O:=fun xs h=>
 bif Nat.beq xs.length 2 then
 (AV.bD (xs.getD 0 .u)).bind fun p0=>
 aq xs 1 fun n1=>
 (Pg [(.p p0),(.i .i64 n1)] h).bind fun r2=>
 (AV.ay 2 r2.1).bind fun c3=>
 (AV.aZ (c3.getD 0 .u)).bind fun b4=>
 aq c3 1 fun n5=>
 ((bif (b4 == false) then
 some ([(.b ((n5:Int) != 0))],r2.2)
 else some ([(.b true)],r2.2)):Option (List AV × AH O)).bind fun r6=>
 (AV.aZ (r6.1.getD 0 .u)).bind fun b7=>
 (bif b7 then
 some ((.aB [(.b false),(.i .i64 n5)]),r6.2)
 else Option.bind p0 fun q8=>
 aj r6.2 q8.1 (q8.2+5) fun eO=>
 aj r6.2 q8.1 ((q8.2+5)+1) fun eD=>
 aj r6.2 q8.1 (((q8.2+5)+1)+1) fun iX=>
 (gC [(.p p0)] r6.2).bind fun fN=>
 (AV.asAgg 5 fN.1).bind fun sG=>
 (AV.bD (sG.getD 0 .u)).bind fun p17=>
 aq sG 1 fun iB=>
 aq sG 2 fun fu=>
 aq sG 3 fun jU=>
 aq sG 4 fun lM=>
 (aT (fN.2.ld q8.1 (q8.2+5)) (some (.i .i64 eO))).bind fun _=>
 (aT (fN.2.ld q8.1 ((q8.2+5)+1)) (some (.i .i64 eD))).bind fun _=>
 (aT (fN.2.ld q8.1 (((q8.2+5)+1)+1)) (some (.i .i64 iX))).bind fun _=>
 (Ph [(.agg [(.p p17),(.i .i64 iB),(.i .i64 fu),(.i .i64 jU),(.i .i64 lM)]),(.agg [(.i .i64 eO),(.i .i64 eD),(.i .i64 iX)]),(.i .i64 n1)] fN.2).bind fun fU=>
 (AV.ay 2 fU.1).bind fun Q3=>
 (AV.asAgg 3 (Q3.getD 0 .u)).bind fun HR=>
 aq HR 0 fun oZ=>
 aq HR 1 fun eN=>
 aq HR 2 fun qK=>
 aq Q3 1 fun qw=>
 Option.bind p0 fun Mm=>
 (fU.2.st Mm.1 (Mm.2+5) [(.i .i64 oZ),(.i .i64 eN),(.i .i64 qK)]).bind fun GK=>
 Option.bind p0 fun DB=>
 aj GK DB.1 (DB.2+2) fun BR=>
 aj GK DB.1 ((DB.2+2)+1) fun wg=>
 aj GK DB.1 (((DB.2+2)+1)+1) fun BO=>
 (gC [(.p p0)] GK).bind fun Mu=>
 (AV.asAgg 5 Mu.1).bind fun c39=>
 (AV.bD (c39.getD 0 .u)).bind fun p40=>
 aq c39 1 fun DC=>
 aq c39 2 fun EX=>
 aq c39 3 fun xM=>
 aq c39 4 fun Ms=>
 (aT (Mu.2.ld DB.1 (DB.2+2)) (some (.i .i64 BR))).bind fun _=>
 (aT (Mu.2.ld DB.1 ((DB.2+2)+1)) (some (.i .i64 wg))).bind fun _=>
 (aT (Mu.2.ld DB.1 (((DB.2+2)+1)+1)) (some (.i .i64 BO))).bind fun _=>
 (qB [(.agg [(.p p40),(.i .i64 DC),(.i .i64 EX),(.i .i64 xM),(.i .i64 Ms)]),(.agg [(.i .i64 BR),(.i .i64 wg),(.i .i64 BO)]),(.i .i64 n1)] Mu.2).bind fun LJ=>
 (AV.ay 2 LJ.1).bind fun c46=>
 (AV.asAgg 3 (c46.getD 0 .u)).bind fun GY=>
 aq GY 0 fun Dy=>
 aq GY 1 fun sH=>
 aq GY 2 fun za=>
 aq c46 1 fun Fa=>
 Option.bind p0 fun q52=>
 (LJ.2.st q52.1 (q52.2+2) [(.i .i64 Dy),(.i .i64 sH),(.i .i64 za)]).bind fun h53=>
 Option.bind p0 fun q54=>
 cD h53 q54.1 (q54.2+1) fun p56=>
 Option.bind p0 fun q57=>
 gO h53 q57.1 (q57.2+8) fun GW=>
 (gB [(.p p56),(.i .i64 n1),(.i .i64 4),(.i .u64 GW)] h53).bind fun r60=>
 (AV.aX .i64 r60.1).bind fun QT=>
 some ((.aB [(.b true),(.i .i64 QT)]),r60.2))
 else none
def U5:Sm O:=qp7 XU NH qp3 Sk Gd
theorem qp9:ag Tryz.prog 107:=Tryz.call107
theorem qqa (Pg gC Ph qB gB:Sm O):run (O:=O) Tryz.prog [(66,Pg),(100,gC),(152,Ph),(132,qB),(130,gB)] Tryz.f107 (.n .z (.n .z (.n (.n (.g [(1,2,[(18,.one .b)])]) (.n .z .z)) (.n (.d [] [0,1,3,4,5,6,7,2,8,9,10,11,12,13,14] [0,0,2,0,8,24,56,0,254,510,1022,1022,2047,6143,14335]) (.n (.d [] [0,1,3,4,5,6,7,2,8,9,10,11,12,13,14] [0,0,2,0,8,24,56,0,254,510,1022,1022,2047,6143,14335]) (.n (.d [] [0,1,2,3,4,5,6,7,8,9,10,11] [0,1,3,7,0,0,32,96,224,511,1023,2047]) .z))))))=qp7 Pg gC Ph qB gB:=by kernel_rfl
theorem qqb:ai RO Tryz.prog 107 U5:=bJ (qqa _ _ _ _ _) (ae qpu qpw <| ae qho qhq <| ae qp4 qp6 <| ae qis qiu <| ae qhe qhg <| aE) Tryz.func107 (by kernel_rfl)
def qqc (qD o9 Pj zr zy Fg zA:Sm O):Sm O:=fun xs h=>
 bif Nat.beq xs.length 2 then
 (AV.bD (xs.getD 0 .u)).bind fun p0=>
 cV xs 1 fun n1=>
 Option.bind p0 fun q2=>
 cD h q2.1 q2.2 fun p4=>
 (qD [(.p p4)] h).bind fun r5=>
 (AV.bD r5.1).bind fun p6=>
 (o9 [(.i .u64 n1)] r5.2).bind fun r7=>
 (AV.aX .i64 r7.1).bind fun n8=>
 (Pj [(.p p6),(.i .i64 n8)] r7.2).bind fun r9=>
 (AV.ay 2 r9.1).bind fun BK=>
 (AV.aZ (BK.getD 0 .u)).bind fun GL=>
 aq BK 1 fun eD=>
 (bif (!GL) then
 some ((.aB []),r9.2)
 else (o9 [(.i .u64 n1)] r9.2).bind fun fk=>
 (AV.aX .i64 fk.1).bind fun iX=>
 (zr [(.p p6),(.i .i64 iX),(.i .i64 0)] fk.2).bind fun fN=>
 (AV.ay 2 fN.1).bind fun sG=>
 cV sG 0 fun fe=>
 aq sG 1 fun iB=>
 (zy [(.i .u64 fe)] fN.2).bind fun gH=>
 (AV.ay 2 gH.1).bind fun Bh=>
 cV Bh 0 fun lM=>
 aq Bh 1 fun iA=>
 (bif ((iA:Int) != 0) then
 some ((.aB []),gH.2)
 else (o9 [(.i .u64 n1)] gH.2).bind fun vp=>
 (AV.aX .i64 vp.1).bind fun nq=>
 (Fg [(.p p6),(.i .i64 nq),(.i .i64 0),(.i .u64 lM)] vp.2).bind fun eJ=>
 (AV.aX .i64 eJ.1).bind fun eN=>
 (zA [(.p p0),(.i .u64 lM)] eJ.2).bind fun jR=>
 (AV.ay 0 jR.1).bind fun HQ=>
 some ((.aB []),jR.2)))
 else none
def Vf:Sm O:=qqc El Md U5 Yb Yd Qw Yl
theorem qqe:ag Tryz.prog 55:=Tryz.call55
theorem qqf (qD o9 Pj zr zy Fg zA:Sm O):run (O:=O) Tryz.prog [(32,qD),(63,o9),(107,Pj),(108,zr),(103,zy),(90,Fg),(106,zA)] Tryz.f55 (.n .z (.n (.n .z (.n .z .z)) (.n .z (.n .z (.n (.n .z .z) .z)))))=qqc qD o9 Pj zr zy Fg zA:=by kernel_rfl
theorem qqg:ai RO Tryz.prog 55 Vf:=bJ (qqf _ _ _ _ _ _ _) (ae VD VE <| ae qk5 qk7 <| ae qp9 qqb <| ae qlf qlh <| ae qo5 qo7 <| ae qi7 qi9 <| ae qpk qpm <| aE) Tryz.func55 (by kernel_rfl)
def Vh (nu k54 k55:Sm O):Sm O:=fun xs h=>
 bif Nat.beq xs.length 2 then
 (AV.bD (xs.getD 0 .u)).bind fun p0=>
 cV xs 1 fun n1=>
 (nu [(.i .u64 n1)] h).bind fun r2=>
 (AV.aX .i64 r2.1).bind fun n3=>
 (bif ((n3:Int) == 1) then
 (k54 [(.p p0),(.i .u64 n1)] r2.2).bind fun r4=>
 (AV.aX .u64 r4.1).bind fun n5=>
 some ((.i .u64 n5),r4.2)
 else ((bif ((n3:Int) == 2) then
 (k55 [(.p p0),(.i .u64 n1)] r2.2).bind fun r6=>
 (AV.ay 0 r6.1).bind fun c7=>
 some ([],r6.2)
 else some ([],r2.2)):Option (List AV × AH O)).bind fun r8=>
 some ((.i .u64 n1),r8.2))
 else none
def zG:Sm O:=Vh BE Ve Vf
theorem qqj:ag Tryz.prog 12:=Tryz.call12
theorem qqk (nu k54 k55:Sm O):run (O:=O) Tryz.prog [(53,nu),(54,k54),(55,k55)] Tryz.f12 (.n .z (.n (.n .z (.n (.n .z (.n .z (.n .z (.j false [] .z .z)))) .z)) .z))=Vh nu k54 k55:=by kernel_rfl
theorem qql:ai RO Tryz.prog 12 zG:=bJ (qqk _ _ _) (ae T9 Ua <| ae qpp qpr <| ae qqe qqg <| aE) Tryz.func12 (by kernel_rfl)
def qqm (nu lO o9 Pb Pc xO qD Pg:Sm O):Sm O:=fun xs h=>
 bif Nat.beq xs.length 2 then
 (AV.bD (xs.getD 0 .u)).bind fun p0=>
 cV xs 1 fun n1=>
 (nu [(.i .u64 n1)] h).bind fun r2=>
 (AV.aX .i64 r2.1).bind fun n3=>
 cv (S:=List AV × AH O) (R:=(AV × AH O)) ((bif ((n3:Int) == 1) then
 Option.bind p0 fun q4=>
 cD r2.2 q4.1 q4.2 fun p6=>
 (lO [(.p p6)] r2.2).bind fun r7=>
 (AV.bD r7.1).bind fun p8=>
 (o9 [(.i .u64 n1)] r7.2).bind fun r9=>
 (AV.aX .i64 r9.1).bind fun eO=>
 (Pb [(.p p8),(.i .i64 eO)] r9.2).bind fun eQ=>
 (AV.ay 2 eQ.1).bind fun c12=>
 cV c12 0 fun fc=>
 aq c12 1 fun iX=>
 (Pc [(.i .u64 fc)] eQ.2).bind fun fN=>
 (AV.ay 2 fN.1).bind fun sG=>
 aq sG 0 fun fe=>
 (AV.aZ (sG.getD 1 .u)).bind fun Dv=>
 (bif Dv then
 (xO [(.i .i64 fe)] fN.2).bind fun gH=>
 (AV.ay 2 gH.1).bind fun Bh=>
 cV Bh 0 fun lM=>
 aq Bh 1 fun iA=>
 ((some ((.i .u64 lM),gH.2):Option (AV × AH O)).map Sum.inr)
 else some (Sum.inl ([],fN.2)))
 else cv (S:=List AV × AH O) (R:=((List AV × AH O) ⊕ (AV × AH O))) ((bif ((n3:Int) == 2) then
 Option.bind p0 fun EZ=>
 cD r2.2 EZ.1 EZ.2 fun p25=>
 (qD [(.p p25)] r2.2).bind fun lC=>
 (AV.bD lC.1).bind fun p27=>
 (o9 [(.i .u64 n1)] lC.2).bind fun tG=>
 (AV.aX .i64 tG.1).bind fun vq=>
 (Pg [(.p p27),(.i .i64 vq)] tG.2).bind fun Mv=>
 (AV.ay 2 Mv.1).bind fun c31=>
 (AV.aZ (c31.getD 0 .u)).bind fun b32=>
 aq c31 1 fun BR=>
 (bif b32 then
 ((((some ((.i .u64 n1),Mv.2):Option (AV × AH O)).map Sum.inr):Option ((List AV × AH O) ⊕ (AV × AH O))).map Sum.inr)
 else some (Sum.inl ([],Mv.2)))
 else some (Sum.inl ([],r2.2)))) fun Lq=>
 some (Sum.inl ([],Lq.2)))) fun VJ=>
 some ((.i .u64 0),VJ.2)
 else none
def SO:Sm O:=qqm BE BC Md Yi SI SE El XU
theorem qqo:ag Tryz.prog 25:=Tryz.call25
theorem qqp (nu lO o9 Pb Pc xO qD Pg:Sm O):run (O:=O) Tryz.prog [(53,nu),(23,lO),(63,o9),(62,Pb),(64,Pc),(65,xO),(32,qD),(66,Pg)] Tryz.f25 (.n .z (.n (.n .z (.n (.n .z (.j true [] (.n .z (.n .z (.n .z (.n (.n .z .z) .z)))) (.n .z (.j true [] (.n .z (.n .z (.n .z .z))) .z)))) .z)) .z))=qqm nu lO o9 Pb Pc xO qD Pg:=by kernel_rfl
theorem qqq:ai RO Tryz.prog 25 SO:=bJ (qqp _ _ _ _ _ _ _ _) (ae T9 Ua <| ae TD TE <| ae qk5 qk7 <| ae qob qod <| ae qoq qos <| ae qj6 qj8 <| ae VD VE <| ae qpu qpw <| aE) Tryz.func25 (by kernel_rfl)
def qqr:Sm O:=fun xs h=>
 bif Nat.beq xs.length 1 then
 (AV.asAgg 5 (xs.getD 0 .u)).bind fun c0=>
 aq c0 0 fun n1=>
 aq c0 1 fun n2=>
 aq c0 2 fun n3=>
 aq c0 3 fun n4=>
 (AV.aZ (c0.getD 4 .u)).bind fun b5=>
 let h6:=h.az 2
 let h7:=h6.put h.next (.cells true 39 [(.i .i64 n1),(.i .i64 n2),(.i .i64 n3),(.i .i64 n4),(.b b5)])
 let h8:=h7.put (h.next+1) (.cells true 39 [(.i .i64 0),(.i .i64 0),(.i .i64 0),(.i .i64 0),(.b false)])
 aj h8 (.n h.next) 3 fun eO=>
 ((bif (decide (eO<7)) then
 aj h8 (.n h.next) 3 fun eD=>
 (h8.st (.n h.next) 3 [(.i .i64 (IntKind.i64.wrap (eD+1)))]).bind fun jy=>
 some ([],jy)
 else some ([],h8)):Option (List AV × AH O)).bind fun kY=>
 aj kY.2 (.n h.next) 0 fun iQ=>
 aj kY.2 (.n h.next) 1 fun iB=>
 aj kY.2 (.n h.next) 2 fun jU=>
 aj kY.2 (.n h.next) 3 fun iA=>
 (kY.2.ld (.n h.next) 4).bind fun w23=>
 (AV.aZ w23).bind fun b24=>
 (kY.2.st (.n (h.next+1)) 0 [(.i .i64 iQ),(.i .i64 iB),(.i .i64 jU),(.i .i64 iA),(.b b24)]).bind fun Dx=>
 aj Dx (.n (h.next+1)) 0 fun qK=>
 aj Dx (.n (h.next+1)) 1 fun vq=>
 aj Dx (.n (h.next+1)) 2 fun we=>
 aj Dx (.n (h.next+1)) 3 fun BR=>
 (Dx.ld (.n (h.next+1)) 4).bind fun w34=>
 (AV.aZ w34).bind fun b35=>
 some ((.agg [(.i .i64 qK),(.i .i64 vq),(.i .i64 we),(.i .i64 BR),(.b b35)]),Dx)
 else none
def LW:Sm O:=qqr
theorem qqt:ag Tryz.prog 14:=Tryz.call14
theorem qqu:run (O:=O) Tryz.prog [] Tryz.f14 (.n .z (.n (.n .z (.j false [] .z .z)) .z))=qqr:=by kernel_rfl
theorem qqv:ai RO Tryz.prog 14 LW:=bJ qqu (aE) Tryz.func14 (by kernel_rfl)
end
end Go.Abs.Tryz
