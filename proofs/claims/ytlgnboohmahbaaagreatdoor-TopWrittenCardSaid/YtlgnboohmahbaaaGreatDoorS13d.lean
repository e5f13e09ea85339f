/-
  What functions of the program do. No conditions.
-/
import Derived.Test.YtlgnboohmahbaaaGreatDoorS13a
import Derived.Test.YtlgnboohmahbaaaGreatDoorProg
import Derived.Test.YtlgnboohmahbaaaGreatDoorS13c
import Derived.KernelRfl
set_option linter.unusedVariables false
set_option linter.unusedSimpArgs false
set_option linter.constructorNameAsVariable false
set_option maxRecDepth 100000
namespace Go.Abs.Tryz
open Go Go.Abs Go.Proofs
noncomputable section
variable {O:Type} {RO:O → Loc → (Nat → Option Obj) → Prop}
def CP (ace afN:Sm O):Sm O:=fun xs h=>
 bif Nat.beq xs.length 2 then
 (AV.ag .i64 (xs.getD 0 .u)).bind fun n0=>
 (AV.ag .i64 (xs.getD 1 .u)).bind fun n1=>
 let h2:=h.bump 1
 let h3:=h2.put h.next (.cells true 177 [(.i .u64 0),(.i .u64 0)])
 let h4:=h3.bump 1
 (ace [J n0,(.i .u64 64)] h4).bind fun r5=>
 (AV.asAgg 2 r5.1).bind fun c6=>
 (AV.ag .u64 (c6.getD 0 .u)).bind fun n7=>
 (AV.ag .u64 (c6.getD 1 .u)).bind fun n8=>
 (ace [J n1,(.i .u64 64)] r5.2).bind fun r9=>
 (AV.asAgg 2 r9.1).bind fun Gl=>
 (AV.ag .u64 (Gl.getD 0 .u)).bind fun dZ=>
 (AV.ag .u64 (Gl.getD 1 .u)).bind fun dy=>
 let nk:=r9.2.put h3.next (.cells true 177 [(.i .u64 n7),(.i .u64 n8),(.i .u64 dZ),(.i .u64 dy)])
 (afN [(.sl (.loc (.n h3.next) 0 2) 2)] nk).bind fun r14=>
 (AV.asAgg 2 r14.1).bind fun c15=>
 (AV.ag .u64 (c15.getD 0 .u)).bind fun jN=>
 (AV.ag .u64 (c15.getD 1 .u)).bind fun iO=>
 (r14.2.st (.n h.next) 0 [(.i .u64 jN),(.i .u64 iO)]).bind fun qp=>
 (qp.ld (.n h.next) 0).bind fun I5=>
 (AV.ag .u64 I5).bind fun nv=>
 (qp.ld (.n h.next) 1).bind fun yF=>
 (AV.ag .u64 yF).bind fun fC=>
 some ((.agg [(.i .u64 nv),(.i .u64 fC)]),qp)
 else none
def HJ:Sm O:=CP XY UG
theorem Jq:aa Tryz.prog 154:=Tryz.call154
theorem Jr (ace afN:Sm O):run (O:=O) Tryz.prog [(206,ace),(205,afN)] Tryz.f154 (.n .z .z)=CP ace afN:=by kernel_rfl
theorem Ga:ae RO Tryz.prog 154 HJ:=bt (Jr _ _) (af UD O4 <| af Ss NM <| aA) Tryz.func154 (by kernel_rfl)
def qR (o7:Sm O):Sm O:=fun xs h=>
 bif Nat.beq xs.length 2 then
 (AV.asAgg 4 (xs.getD 0 .u)).bind fun c0=>
 (AV.ag .u64 (c0.getD 0 .u)).bind fun n1=>
 (AV.ag .u64 (c0.getD 1 .u)).bind fun n2=>
 (AV.ag .u64 (c0.getD 2 .u)).bind fun n3=>
 (AV.ag .u64 (c0.getD 3 .u)).bind fun n4=>
 (AV.asAgg 2 (xs.getD 1 .u)).bind fun c5=>
 (AV.ag .u64 (c5.getD 0 .u)).bind fun n6=>
 (AV.ag .u64 (c5.getD 1 .u)).bind fun n7=>
 let h8:=h.bump 3
 let h9:=h8.put h.next (.cells true 181 [(.i .u64 n1),(.i .u64 n2),(.i .u64 n3),(.i .u64 n4)])
 let gS:=h9.put (h.next+1) (.cells true 177 [(.i .u64 n6),(.i .u64 n7)])
 let iM:=gS.put ((h.next+1)+1) (.cells true 181 [(.i .u64 0),(.i .u64 0),(.i .u64 0),(.i .u64 0)])
 (iM.ld (.n h.next) 0).bind fun tw=>
 (AV.ag .u64 tw).bind fun fg=>
 (iM.ld (.n h.next) 1).bind fun ou=>
 (AV.ag .u64 ou).bind fun gd=>
 (iM.ld (.n (h.next+1)) 0).bind fun vl=>
 (AV.ag .u64 vl).bind fun iO=>
 (iM.ld (.n (h.next+1)) 1).bind fun Ce=>
 (AV.ag .u64 Ce).bind fun kN=>
 (o7 [(.agg [(.i .u64 fg),(.i .u64 gd)]),(.agg [(.i .u64 iO),(.i .u64 kN)])] iM).bind fun kO=>
 (AV.aE 2 kO.1).bind fun Us=>
 (AV.asAgg 2 (Us.getD 0 .u)).bind fun ZI=>
 (AV.ag .u64 (ZI.getD 0 .u)).bind fun qo=>
 (AV.ag .u64 (ZI.getD 1 .u)).bind fun rZ=>
 (AV.aV (Us.getD 1 .u)).bind fun b25=>
 (kO.2.st (.n h.next) 0 [(.i .u64 qo),(.i .u64 rZ)]).bind fun h26=>
 (h26.ld (.n h.next) 0).bind fun yM=>
 (AV.ag .u64 yM).bind fun jo=>
 (h26.ld (.n h.next) 1).bind fun yH=>
 (AV.ag .u64 yH).bind fun ot=>
 (h26.ld (.n h.next) 2).bind fun Cl=>
 (AV.ag .u64 Cl).bind fun lJ=>
 (h26.ld (.n h.next) 3).bind fun FE=>
 (AV.ag .u64 FE).bind fun wg=>
 (h26.st (.n ((h.next+1)+1)) 0 [(.i .u64 jo),(.i .u64 ot),(.i .u64 lJ),(.i .u64 wg)]).bind fun wO=>
 (wO.ld (.n ((h.next+1)+1)) 0).bind fun Ui=>
 (AV.ag .u64 Ui).bind fun OX=>
 (wO.ld (.n ((h.next+1)+1)) 1).bind fun OG=>
 (AV.ag .u64 OG).bind fun Ot=>
 (wO.ld (.n ((h.next+1)+1)) 2).bind fun WR=>
 (AV.ag .u64 WR).bind fun Ou=>
 (wO.ld (.n ((h.next+1)+1)) 3).bind fun WS=>
 (AV.ag .u64 WS).bind fun KC=>
 some ((.agg [(.i .u64 OX),(.i .u64 Ot),(.i .u64 Ou),(.i .u64 KC)]),wO)
 else none
def uO:Sm O:=qR xa
theorem A7:aa Tryz.prog 153:=Tryz.call153
theorem A8 (o7:Sm O):run (O:=O) Tryz.prog [(155,o7)] Tryz.f153 (.n .z (.n .z .z))=qR o7:=by kernel_rfl
theorem xG:ae RO Tryz.prog 153 uO:=bt (A8 _) (af mz iX <| aA) Tryz.func153 (by kernel_rfl)
def km (afO afP:Sm O):Sm O:=fun xs h=>
 bif Nat.beq xs.length 3 then
 (AV.asAgg 4 (xs.getD 0 .u)).bind fun c0=>
 (AV.ag .u64 (c0.getD 0 .u)).bind fun n1=>
 (AV.ag .u64 (c0.getD 1 .u)).bind fun n2=>
 (AV.ag .u64 (c0.getD 2 .u)).bind fun n3=>
 (AV.ag .u64 (c0.getD 3 .u)).bind fun n4=>
 (AV.ag .i64 (xs.getD 1 .u)).bind fun n5=>
 (AV.ag .i64 (xs.getD 2 .u)).bind fun n6=>
 let h7:=h.bump 2
 let h8:=h7.put h.next (.cells true 181 [(.i .u64 n1),(.i .u64 n2),(.i .u64 n3),(.i .u64 n4)])
 let h9:=h8.put (h.next+1) (.cells true 181 [(.i .u64 0),(.i .u64 0),(.i .u64 0),(.i .u64 0)])
 (h9.ld (.n h.next) 0).bind fun wP=>
 (AV.ag .u64 wP).bind fun dZ=>
 (h9.ld (.n h.next) 1).bind fun tw=>
 (AV.ag .u64 tw).bind fun fg=>
 (h9.ld (.n h.next) 2).bind fun ou=>
 (AV.ag .u64 ou).bind fun gd=>
 (h9.ld (.n h.next) 3).bind fun vl=>
 (AV.ag .u64 vl).bind fun iO=>
 (afO [J n5,J n6] h9).bind fun gb=>
 (AV.asAgg 2 gb.1).bind fun Ro=>
 (AV.ag .u64 (Ro.getD 0 .u)).bind fun nv=>
 (AV.ag .u64 (Ro.getD 1 .u)).bind fun vr=>
 (bc (gb.2.ld (.n h.next) 0) (some (.i .u64 dZ))).bind fun _=>
 (bc (gb.2.ld (.n h.next) 1) (some (.i .u64 fg))).bind fun _=>
 (bc (gb.2.ld (.n h.next) 2) (some (.i .u64 gd))).bind fun _=>
 (bc (gb.2.ld (.n h.next) 3) (some (.i .u64 iO))).bind fun _=>
 (afP [(.agg [(.i .u64 dZ),(.i .u64 fg),(.i .u64 gd),(.i .u64 iO)]),(.agg [(.i .u64 nv),(.i .u64 vr)])] gb.2).bind fun tY=>
 (AV.asAgg 4 tY.1).bind fun Qa=>
 (AV.ag .u64 (Qa.getD 0 .u)).bind fun rZ=>
 (AV.ag .u64 (Qa.getD 1 .u)).bind fun wj=>
 (AV.ag .u64 (Qa.getD 2 .u)).bind fun ji=>
 (AV.ag .u64 (Qa.getD 3 .u)).bind fun Ai=>
 (tY.2.st (.n (h.next+1)) 0 [(.i .u64 rZ),(.i .u64 wj),(.i .u64 ji),(.i .u64 Ai)]).bind fun H4=>
 (H4.ld (.n (h.next+1)) 0).bind fun yH=>
 (AV.ag .u64 yH).bind fun ot=>
 (H4.ld (.n (h.next+1)) 1).bind fun Cl=>
 (AV.ag .u64 Cl).bind fun lJ=>
 (H4.ld (.n (h.next+1)) 2).bind fun FE=>
 (AV.ag .u64 FE).bind fun wg=>
 (H4.ld (.n (h.next+1)) 3).bind fun Rw=>
 (AV.ag .u64 Rw).bind fun GU=>
 some ((.agg [(.i .u64 ot),(.i .u64 lJ),(.i .u64 wg),(.i .u64 GU)]),H4)
 else none
def bR:Sm O:=km HJ uO
theorem ja:aa Tryz.prog 116:=Tryz.call116
theorem sQ (afO afP:Sm O):run (O:=O) Tryz.prog [(154,afO),(153,afP)] Tryz.f116 (.n .z (.n (.d [] [0,1,2,3,4,5] [0,0,0,6,15,31]) .z))=km afO afP:=by kernel_rfl
theorem gO:ae RO Tryz.prog 116 bR:=bt (sQ _ _) (af Jq Ga <| af A7 xG <| aA) Tryz.func116 (by kernel_rfl)
def jb (Sh afQ afR afS afT O5:Sm O):Sm O:=fun xs h=>
 bif Nat.beq xs.length 2 then
 (AV.aT (xs.getD 0 .u)).bind fun p0=>
 (AV.ag .i64 (xs.getD 1 .u)).bind fun n1=>
 Option.bind p0 fun q2=>
 (h.ld q2.1 (q2.2+7)).bind fun w3=>
 (AV.ag .i64 w3).bind fun n4=>
 (h.ld q2.1 ((q2.2+7)+1)).bind fun w5=>
 (AV.ag .i64 w5).bind fun n6=>
 (h.ld q2.1 (((q2.2+7)+1)+1)).bind fun w7=>
 (AV.ag .i64 w7).bind fun n8=>
 (h.ld q2.1 ((((q2.2+7)+1)+1)+1)).bind fun w9=>
 (AV.ag .i64 w9).bind fun cQ=>
 (h.ld q2.1 (((((q2.2+7)+1)+1)+1)+1)).bind fun nm=>
 (AV.ag .i64 nm).bind fun dy=>
 (h.ld q2.1 ((((((q2.2+7)+1)+1)+1)+1)+1)).bind fun tz=>
 (AV.ag .i64 tz).bind fun fW=>
 (h.ld q2.1 (((((((q2.2+7)+1)+1)+1)+1)+1)+1)).bind fun tx=>
 (AV.ag .i64 tx).bind fun jN=>
 (h.ld q2.1 ((((((((q2.2+7)+1)+1)+1)+1)+1)+1)+1)).bind fun vk=>
 (AV.ag .i64 vk).bind fun jX=>
 (Sh [(.p p0)] h).bind fun r19=>
 (AV.ag .i64 r19.1).bind fun nv=>
 (bc (r19.2.ld q2.1 (q2.2+7)) (some (.i .i64 n4))).bind fun _=>
 (bc (r19.2.ld q2.1 ((q2.2+7)+1)) (some (.i .i64 n6))).bind fun _=>
 (bc (r19.2.ld q2.1 (((q2.2+7)+1)+1)) (some (.i .i64 n8))).bind fun _=>
 (bc (r19.2.ld q2.1 ((((q2.2+7)+1)+1)+1)) (some (.i .i64 cQ))).bind fun _=>
 (bc (r19.2.ld q2.1 (((((q2.2+7)+1)+1)+1)+1)) (some (.i .i64 dy))).bind fun _=>
 (bc (r19.2.ld q2.1 ((((((q2.2+7)+1)+1)+1)+1)+1)) (some (.i .i64 fW))).bind fun _=>
 (bc (r19.2.ld q2.1 (((((((q2.2+7)+1)+1)+1)+1)+1)+1)) (some (.i .i64 jN))).bind fun _=>
 (bc (r19.2.ld q2.1 ((((((((q2.2+7)+1)+1)+1)+1)+1)+1)+1)) (some (.i .i64 jX))).bind fun _=>
 (afQ [(.agg (P1 n4 n6 n8 cQ dy fW jN jX)),J nv,J n1] r19.2).bind fun Bt=>
 (AV.aV Bt.1).bind fun b22=>
 ((bif b22 then
 Option.bind p0 fun KV=>
 (Bt.2.ld KV.1 (KV.2+7)).bind fun OJ=>
 (AV.ag .i64 OJ).bind fun wj=>
 (Bt.2.ld KV.1 ((KV.2+7)+1)).bind fun Ru=>
 (AV.ag .i64 Ru).bind fun Ai=>
 (Bt.2.ld KV.1 (((KV.2+7)+1)+1)).bind fun Rv=>
 (AV.ag .i64 Rv).bind fun Lm=>
 (Bt.2.ld KV.1 ((((KV.2+7)+1)+1)+1)).bind fun w30=>
 (AV.ag .i64 w30).bind fun SH=>
 (Bt.2.ld KV.1 (((((KV.2+7)+1)+1)+1)+1)).bind fun w32=>
 (AV.ag .i64 w32).bind fun RH=>
 (Bt.2.ld KV.1 ((((((KV.2+7)+1)+1)+1)+1)+1)).bind fun w34=>
 (AV.ag .i64 w34).bind fun Vw=>
 (Bt.2.ld KV.1 (((((((KV.2+7)+1)+1)+1)+1)+1)+1)).bind fun Ui=>
 (AV.ag .i64 Ui).bind fun OX=>
 (Bt.2.ld KV.1 ((((((((KV.2+7)+1)+1)+1)+1)+1)+1)+1)).bind fun OG=>
 (AV.ag .i64 OG).bind fun Ot=>
 (afR [(.agg (P1 wj Ai Lm SH RH Vw OX Ot))] Bt.2).bind fun Vx=>
 (AV.aV Vx.1).bind fun b41=>
 (afS [(.p p0)] Vx.2).bind fun r42=>
 (AV.ag .i64 r42.1).bind fun KC=>
 (afT [(.p p0),J KC,J n1,(.b b41)] r42.2).bind fun Ua=>
 (AV.aV Ua.1).bind fun b45=>
 (bif (!b45) then
 none
 else some ([],Ua.2))
 else some ([],Bt.2)):Option (List AV × AH O)).bind fun r46=>
 Option.bind p0 fun q47=>
 (r46.2.ld q47.1 ((q47.2+32)+3)).bind fun ZE=>
 (AV.ag .i64 ZE).bind fun Ry=>
 Option.bind p0 fun q50=>
 (r46.2.st q50.1 ((q50.2+32)+3) [(.i .i64 (IntKind.i64.wrap (Ry+n1)))]).bind fun h51=>
 Option.bind p0 fun XX=>
 (h51.ld XX.1 (XX.2+15)).bind fun w53=>
 (AV.ag .u64 w53).bind fun SF=>
 (h51.ld XX.1 ((XX.2+15)+1)).bind fun Zz=>
 (AV.ag .u64 Zz).bind fun SG=>
 (h51.ld XX.1 (((XX.2+15)+1)+1)).bind fun Zp=>
 (AV.ag .u64 Zp).bind fun Uk=>
 (h51.ld XX.1 ((((XX.2+15)+1)+1)+1)).bind fun w59=>
 (AV.ag .u64 w59).bind fun Zq=>
 (O5 [(.agg [(.i .u64 SF),(.i .u64 SG),(.i .u64 Uk),(.i .u64 Zq)]),J n1,J 0] h51).bind fun yA=>
 (AV.asAgg 4 yA.1).bind fun c62=>
 (AV.ag .u64 (c62.getD 0 .u)).bind fun n63=>
 (AV.ag .u64 (c62.getD 1 .u)).bind fun Z6=>
 (AV.ag .u64 (c62.getD 2 .u)).bind fun Vs=>
 (AV.ag .u64 (c62.getD 3 .u)).bind fun Zr=>
 Option.bind p0 fun q67=>
 (yA.2.st q67.1 (q67.2+15) [(.i .u64 n63),(.i .u64 Z6),(.i .u64 Vs),(.i .u64 Zr)]).bind fun h68=>
 some (J 0,h68)
 else none
def cL (F:Nat):Sm O:=jb dL kC gv (gG F) jw bR
theorem mV:aa Tryz.prog 161:=Tryz.call161
theorem zl (Sh afQ afR afS afT O5:Sm O):run (O:=O) Tryz.prog [(220,Sh),(219,afQ),(221,afR),(193,afS),(192,afT),(116,O5)] Tryz.f161 (.n .z (.n (.n (.d [] [0,1,2,3,4,6,5,7] [0,1,3,7,0,16,0,127]) (.j false [] (.n .z (.n .z (.n .x .z))) .z)) (.n .z (.n .z .z))))=jb Sh afQ afR afS afT O5:=by kernel_rfl
theorem ko (F:Nat):ae RO Tryz.prog 161 (cL F):=
   have h:ae RO Tryz.prog 161 (jb dL kC gv (gG F) jw bR):=(zl dL kC gv (gG F) jw bR)▸aU (af qB (nH) <| af DS (Av) <| af yU (vB) <| af zh (vK F) <| af CN (zk) <| af ja (gO) <| aA) mixed Tryz.func161 (by kernel_rfl) _
   h
def uP (Sl:Sm O):Sm O:=fun xs h=>
 bif Nat.beq xs.length 1 then
 (AV.aT (xs.getD 0 .u)).bind fun p0=>
 Option.bind p0 fun q1=>
 (h.ld q1.1 ((q1.2+1)+1)).bind fun w2=>
 (AV.ag .i64 w2).bind fun n3=>
 (Sl [(.p p0)] h).bind fun r4=>
 (AV.ag .i64 r4.1).bind fun n5=>
 (bc (r4.2.ld q1.1 ((q1.2+1)+1)) (some (.i .i64 n3))).bind fun _=>
 some ((.i .i64 (IntKind.i64.wrap (n5 - n3))),r4.2)
 else none
def Ab:Sm O:=uP qj
theorem D9:aa Tryz.prog 308:=Tryz.call308
theorem D' (Sl:Sm O):run (O:=O) Tryz.prog [(289,Sl)] Tryz.f308 (.n .z (.n (.d [] [0,2,3,4,5,6,1,7,8] [0,1,0,4,12,28,60,127,255]) .z))=uP Sl:=by kernel_rfl
theorem A9:ae RO Tryz.prog 308 Ab:=bt (D' _) (af qO nN <| aA) Tryz.func308 (by kernel_rfl)
def uQ (afU:Sm O):Sm O:=fun xs h=>
 bif Nat.beq xs.length 2 then
 (AV.aT (xs.getD 0 .u)).bind fun p0=>
 (AV.ag .i64 (xs.getD 1 .u)).bind fun n1=>
 (bif (decide (n1<1)) then
 none
 else (afU [(.p p0)] h).bind fun r2=>
 (AV.ag .i64 r2.1).bind fun n3=>
 (bif (decide (n1 > n3)) then
 none
 else Option.bind p0 fun q4=>
 (r2.2.ld q4.1 ((q4.2+1)+1)).bind fun w5=>
 (AV.ag .i64 w5).bind fun n6=>
 Option.bind p0 fun q7=>
 (r2.2.ld q7.1 ((q7.2+1)+1)).bind fun w8=>
 (AV.ag .i64 w8).bind fun n9=>
 Option.bind p0 fun nZ=>
 (r2.2.st nZ.1 ((nZ.2+1)+1) [(.i .i64 (IntKind.i64.wrap (n9+n1)))]).bind fun iM=>
 some ((.aS [J n6,J 0]),iM)))
 else none
def Ac:Sm O:=uQ Ab
theorem Ea:aa Tryz.prog 264:=Tryz.call264
theorem Eb (afU:Sm O):run (O:=O) Tryz.prog [(308,afU)] Tryz.f264 (.n .z (.n (.n (.n .z (.n .x (.n .z (.n .x .z)))) .z) (.n .z (.n .z .z))))=uQ afU:=by kernel_rfl
theorem Ba:ae RO Tryz.prog 264 Ac:=bt (Eb _) (af D9 A9 <| aA) Tryz.func264 (by kernel_rfl)
def sS (R8 sE:Sm O):Sm O:=fun xs h=>
 bif Nat.beq xs.length 3 then
 (AV.aT (xs.getD 0 .u)).bind fun p0=>
 (AV.ag .i64 (xs.getD 1 .u)).bind fun n1=>
 (AV.ag .u64 (xs.getD 2 .u)).bind fun n2=>
 Option.bind p0 fun q3=>
 (h.ld q3.1 (q3.2+1)).bind fun w4=>
 (AV.ag .i64 w4).bind fun n5=>
 (h.ld q3.1 ((q3.2+1)+1)).bind fun w6=>
 (AV.ag .i64 w6).bind fun n7=>
 (R8 [(.agg [J n5,J n7]),J n1,J 1] h).bind fun r8=>
 (AV.aV r8.1).bind fun b9=>
 (bif (!b9) then
 none
 else Option.bind p0 fun nZ=>
 (r8.2.ld nZ.1 nZ.2).bind fun nm=>
 (AV.aT nm).bind fun p12=>
 Option.bind p0 fun Bu=>
 (r8.2.ld Bu.1 (Bu.2+1)).bind fun ou=>
 (AV.ag .i64 ou).bind fun gd=>
 (sE [(.p p12),J gd,J n1,(.i .u64 n2)] r8.2).bind fun rn=>
 (AV.ag .i64 rn.1).bind fun iO=>
 some (J iO,rn.2))
 else none
def xH:Sm O:=sS mQ fT
theorem CQ:aa Tryz.prog 265:=Tryz.call265
theorem CR (R8 sE:Sm O):run (O:=O) Tryz.prog [(309,R8),(224,sE)] Tryz.f265 (.n .z (.n (.n .z (.n .x .z)) (.n (.d [] [0,1,2,3,4,5,6,7,8,9,10,11,12] [0,1,3,7,0,16,48,112,240,0,0,2047,4095]) .z)))=sS R8 sE:=by kernel_rfl
theorem zm:ae RO Tryz.prog 265 xH:=bt (CR _ _) (af nK lC <| af eC dC <| aA) Tryz.func265 (by kernel_rfl)
def qS (RY Vv Jf afV afW Uv:Sm O):Sm O:=fun xs h=>
 bif Nat.beq xs.length 3 then
 (AV.aT (xs.getD 0 .u)).bind fun p0=>
 (AV.asAgg 2 (xs.getD 1 .u)).bind fun c1=>
 I6 c1 0 fun n2=>I6 c1 1 fun n3=>(AV.ag .i64 (xs.getD 2 .u)).bind fun n4=>
 let h5:=h.bump 1
 let h6:=h5.put h.next (.cells true 45 [J n2,J n3])
 let h7:=h6.bump 1
 (h7.ld (.n h.next) 0).bind fun w8=>
 (AV.ag .i64 w8).bind fun n9=>
 (h7.ld (.n h.next) 1).bind fun wP=>
 (AV.ag .i64 wP).bind fun dZ=>
 (h7.ld (.n h.next) 0).bind fun tw=>
 (AV.ag .i64 tw).bind fun fg=>
 (h7.ld (.n h.next) 1).bind fun ou=>
 (AV.ag .i64 ou).bind fun gd=>
 Option.bind p0 fun Ug=>
 (h7.ld Ug.1 (Ug.2+3)).bind fun vk=>
 (AV.ag .i64 vk).bind fun jX=>
 (RY [(.agg [J fg,J gd]),J jX] h7).bind fun r19=>
 (AV.aV r19.1).bind fun b20=>
 (bc (r19.2.ld (.n h.next) 0) (some (.i .i64 n9))).bind fun _=>
 (bc (r19.2.ld (.n h.next) 1) (some (.i .i64 dZ))).bind fun _=>
 let Rt:=r19.2.put h6.next (.cells true 47 [J 0,J 0,J 0,J 0,(.b false)])
 (Rt.st (.n h6.next) 0 [J n9,J dZ,J n4,J 0,(.b b20)]).bind fun H5=>
 (H5.ld (.n h6.next) 0).bind fun I1=>
 (AV.ag .i64 I1).bind fun rZ=>
 (H5.ld (.n h6.next) 1).bind fun FL=>
 (AV.ag .i64 FL).bind fun ji=>
 (H5.ld (.n h6.next) 2).bind fun yM=>
 (AV.ag .i64 yM).bind fun jo=>
 (H5.ld (.n h6.next) 3).bind fun yH=>
 (AV.ag .i64 yH).bind fun ot=>
 (H5.ld (.n h6.next) 4).bind fun Cl=>
 (AV.aV Cl).bind fun b32=>
 (Vv [(.agg [J rZ,J ji,J jo,J ot,(.b b32)])] H5).bind fun Br=>
 (AV.aE 2 Br.1).bind fun c34=>
 (AV.ag .u64 (c34.getD 0 .u)).bind fun Vw=>
 I6 c34 1 fun GU=>(bif ((GU:Int) != 0) then
 none
 else (Br.2.ld (.n h6.next) 4).bind fun M1=>
 (AV.aV M1).bind fun b38=>
 (bif b38 then
 none
 else Option.bind p0 fun q39=>
 (Br.2.ld q39.1 (q39.2+1)).bind fun WR=>
 (AV.aT WR).bind fun p41=>
 (Br.2.ld (.n h6.next) 0).bind fun WS=>
 (AV.ag .i64 WS).bind fun KC=>
 (Br.2.ld (.n h6.next) 1).bind fun ZD=>
 (AV.ag .i64 ZD).bind fun Ov=>
 (Br.2.ld (.n h6.next) 2).bind fun WJ=>
 (AV.ag .i64 WJ).bind fun Rx=>
 (Br.2.ld (.n h6.next) 3).bind fun ZE=>
 (AV.ag .i64 ZE).bind fun Ry=>
 (Br.2.ld (.n h6.next) 4).bind fun w50=>
 (AV.aV w50).bind fun b51=>
 (Jf [(.agg [J KC,J Ov,J Rx,J Ry,(.b b51)])] Br.2).bind fun r52=>
 (AV.ag .i64 r52.1).bind fun T'=>
 (bc (r52.2.ld q39.1 (q39.2+1)) (some (.p p41))).bind fun _=>
 (afV [(.p p41),J T'] r52.2).bind fun r54=>
 (AV.aE 2 r54.1).bind fun c55=>
 I6 c55 0 fun SG=>I6 c55 1 fun n57=>(bif ((n57:Int) != 0) then
 none
 else Option.bind p0 fun q58=>
 (r54.2.ld q58.1 (q58.2+1)).bind fun w59=>
 (AV.aT w59).bind fun p60=>
 (afW [(.p p60),J SG,(.i .u64 Vw)] r54.2).bind fun yA=>
 (AV.ag .i64 yA.1).bind fun n62=>
 (Uv [J SG] yA.2).bind fun XO=>
 (AV.aE 2 XO.1).bind fun c64=>
 (AV.ag .u64 (c64.getD 0 .u)).bind fun Vs=>
 I6 c64 1 fun Zr=>some ((.aS [(.i .u64 Vs),J Zr]),XO.2))))
 else none
def iA:Sm O:=qS Cw df rA Ac xH CC
theorem Bb:aa Tryz.prog 215:=Tryz.call215
theorem Bc (RY Vv Jf afV afW Uv:Sm O):run (O:=O) Tryz.prog [(259,RY),(22,Vv),(261,Jf),(264,afV),(265,afW),(266,Uv)] Tryz.f215 (.n .z (.n (.d [] [0,1,2,3,4,5,6,7,8,9,10] [0,0,0,0,8,24,56,124,255,0,1023]) (.n .z (.n (.n .z (.n .x .z)) (.n (.n .z (.n .x .z)) (.n (.d [] [0,1,2,3,4,5,6,7,8,9,10,11,12] [0,1,3,7,15,0,32,127,255,511,511,1023,4095]) (.n (.n .z (.n .x .z)) (.n .z .z))))))))=qS RY Vv Jf afV afW Uv:=by kernel_rfl
theorem xI:ae RO Tryz.prog 215 iA:=bt (Bc _ _ _ _ _ _) (af zR uj <| af qb mj <| af oz kT <| af Ea Ba <| af CQ zm <| af zW uC <| aA) Tryz.func215 (by kernel_rfl)
def sT (Su:Sm O):Sm O:=fun xs h=>
 bif Nat.beq xs.length 3 then
 (AV.aT (xs.getD 0 .u)).bind fun p0=>
 (AV.ag .i64 (xs.getD 1 .u)).bind fun n1=>
 (AV.ag .i64 (xs.getD 2 .u)).bind fun n2=>
 (Su [(.p p0),J n1] h).bind fun r3=>
 (AV.aV r3.1).bind fun b4=>
 (bif (!b4) then
 none
 else (bif (decide (n2<1)) then
 none
 else Option.bind p0 fun q5=>
 (bif ((decide ((0:Int) ≤ n1)) && (decide (n1<32))) then
 (r3.2.ld q5.1 ((q5.2+1)+(n1.toNat*2))).bind fun w6=>
 (AV.ag .i64 w6).bind fun n7=>
 Option.bind p0 fun q8=>
 (bif ((decide ((0:Int) ≤ n1)) && (decide (n1<32))) then
 (r3.2.st q8.1 ((q8.2+1)+(n1.toNat*2)) [(.i .i64 (IntKind.i64.wrap (n7+1)))]).bind fun h9=>
 Option.bind p0 fun nZ=>
 (bif ((decide ((0:Int) ≤ n1)) && (decide (n1<32))) then
 (h9.ld nZ.1 (((nZ.2+1)+(n1.toNat*2))+1)).bind fun nm=>
 (AV.ag .i64 nm).bind fun dy=>
 Option.bind p0 fun Bu=>
 (bif ((decide ((0:Int) ≤ n1)) && (decide (n1<32))) then
 (h9.st Bu.1 (((Bu.2+1)+(n1.toNat*2))+1) [(.i .i64 (IntKind.i64.wrap (dy+n2)))]).bind fun tu=>
 some (J 0,tu)
 else none)
 else none)
 else none)
 else none)))
 else none
def jx:Sm O:=sT gM
theorem CS:aa Tryz.prog 216:=Tryz.call216
theorem CT (Su:Sm O):run (O:=O) Tryz.prog [(212,Su)] Tryz.f216 (.n .z (.n (.n (.n .z (.n .x (.n .z (.n .x .z)))) .z) (.n (.d [] [0,1,2,3,4,5,6,7,8,9,10,11,12] [0,0,1,5,15,31,63,127,1,257,1023,2047,4095]) (.n (.d [] [0,1,2,3,4,5,6,7,8,9,10,11,12,13] [0,0,1,5,15,31,63,0,255,1,513,2047,4095,8191]) .z))))=sT Su:=by kernel_rfl
theorem zn:ae RO Tryz.prog 216 jx:=bt (CT _) (af qw ny <| aA) Tryz.func216 (by kernel_rfl)
def mW (UB:Sm O):Sm O:=fun xs h=>
 bif Nat.beq xs.length 2 then
 (AV.aT (xs.getD 0 .u)).bind fun p0=>
 (AV.ag .i64 (xs.getD 1 .u)).bind fun n1=>
 (UB [J n1,J 0] h).bind fun r2=>
 (AV.aV r2.1).bind fun b3=>
 (bif (!b3) then
 none
 else Option.bind p0 fun q4=>
 (bif ((decide ((0:Int) ≤ n1)) && (decide (n1<32))) then
 (r2.2.ld q4.1 (q4.2+(n1.toNat*7))).bind fun w5=>
 (AV.ag .i64 w5).bind fun n6=>
 Option.bind p0 fun q7=>
 (bif ((decide ((0:Int) ≤ n1)) && (decide (n1<32))) then
 (r2.2.st q7.1 (q7.2+(n1.toNat*7)) [(.i .i64 (IntKind.i64.wrap (n6+1)))]).bind fun h8=>
 some (J 0,h8)
 else none)
 else none))
 else none
def e8:Sm O:=mW sM
theorem vN:aa Tryz.prog 218:=Tryz.call218
theorem vO (UB:Sm O):run (O:=O) Tryz.prog [(254,UB)] Tryz.f218 (.n .z (.n (.n .z (.n .x .z)) (.n (.d [] [0,1,2,3,4,5,6,7,8,9,10,11,12] [0,0,1,5,15,31,63,127,1,257,771,2047,4095]) .z)))=mW UB:=by kernel_rfl
theorem sU:ae RO Tryz.prog 218 e8:=bt (vO _) (af CI xC <| aA) Tryz.func218 (by kernel_rfl)
def mX (RW AG:Sm O):Sm O:=fun xs h=>
 bif Nat.beq xs.length 3 then
 (AV.aT (xs.getD 0 .u)).bind fun p0=>
 (AV.ag .i64 (xs.getD 1 .u)).bind fun n1=>
 (AV.ag .u64 (xs.getD 2 .u)).bind fun n2=>
 (RW [(.p p0),J n1] h).bind fun r3=>
 (AV.aE 2 r3.1).bind fun c4=>
 I6 c4 0 fun n5=>I6 c4 1 fun n6=>(bif ((n6:Int) != 0) then
 none
 else Option.bind p0 fun q7=>
 (r3.2.ld q7.1 q7.2).bind fun w8=>
 (AV.aT w8).bind fun p9=>
 (AG [(.p p9),J n5,J 0,(.i .u64 n2)] r3.2).bind fun dw=>
 (AV.ag .i64 dw.1).bind fun dZ=>
 some (J dZ,dw.2))
 else none
def pD:Sm O:=mX jR da
theorem vP:aa Tryz.prog 231:=Tryz.call231
theorem vQ (RW AG:Sm O):run (O:=O) Tryz.prog [(278,RW),(270,AG)] Tryz.f231 (.n .z (.n .z (.n (.n .z (.n .x .z)) .z)))=mX RW AG:=by kernel_rfl
theorem sV:ae RO Tryz.prog 231 pD:=bt (vQ _ _) (af lz jF <| af gD eZ <| aA) Tryz.func231 (by kernel_rfl)
def sX (afX:Sm O):Sm O:=fun xs h=>
 bif Nat.beq xs.length 3 then
 (AV.aT (xs.getD 0 .u)).bind fun p0=>
 (AV.ag .i64 (xs.getD 1 .u)).bind fun n1=>
 (AV.ag .u64 (xs.getD 2 .u)).bind fun n2=>
 (bif (decide (n1 ≥ 0)) then
 Option.bind p0 fun q3=>
 (h.ld q3.1 (q3.2+1)).bind fun w4=>
 (AV.aT w4).bind fun p5=>
 (afX [(.p p5),J n1,(.i .u64 n2)] h).bind fun r6=>
 (AV.ag .i64 r6.1).bind fun n7=>
 some (J n7,r6.2)
 else none)
 else none
def jy:Sm O:=sX pD
theorem CU:aa Tryz.prog 177:=Tryz.call177
theorem CV (afX:Sm O):run (O:=O) Tryz.prog [(231,afX)] Tryz.f177 (.n .z (.n (.n .z (.n .z .x)) (.n (.d [] [0,1,2,3,4,6,5,7,8] [0,1,3,7,0,16,0,127,255]) .z)))=sX afX:=by kernel_rfl
theorem zo:ae RO Tryz.prog 177 jy:=bt (CV _) (af vP sV <| aA) Tryz.func177 (by kernel_rfl)
def mY (Su RX Sv afY Sw afZ Ht af0 af1 af2:Sm O):Sm O:=fun xs h=>
 bif Nat.beq xs.length 4 then
 (AV.aT (xs.getD 0 .u)).bind fun p0=>
 (AV.ag .i64 (xs.getD 1 .u)).bind fun n1=>
 (AV.asAgg 2 (xs.getD 2 .u)).bind fun c2=>
 I6 c2 0 fun n3=>I6 c2 1 fun n4=>(AV.ag .i64 (xs.getD 3 .u)).bind fun n5=>
 let h6:=h.bump 1
 let h7:=h6.put h.next (.cells true 45 [J n3,J n4])
 Option.bind p0 fun q8=>
 (h7.ld q8.1 (q8.2+19)).bind fun w9=>
 (AV.aT w9).bind fun Vz=>
 (Su [(.p Vz),J n5] h7).bind fun oq=>
 (AV.aV oq.1).bind fun b12=>
 (bif (!b12) then
 none
 else (oq.2.ld (.n h.next) 0).bind fun tz=>
 (AV.ag .i64 tz).bind fun fW=>
 (oq.2.ld (.n h.next) 1).bind fun tx=>
 (AV.ag .i64 tx).bind fun jN=>
 (RX [(.agg [J fW,J jN])] oq.2).bind fun H6=>
 (AV.aV H6.1).bind fun b18=>
 (bif (!b18) then
 none
 else Option.bind p0 fun Rc=>
 (H6.2.ld Rc.1 (Rc.2+6)).bind fun DL=>
 (AV.aT DL).bind fun p21=>
 (Sv [(.p p21),J n1] H6.2).bind fun tY=>
 (AV.aE 2 tY.1).bind fun Qa=>
 (AV.ag .u64 (Qa.getD 0 .u)).bind fun rZ=>
 I6 Qa 1 fun wj=>(bif ((wj:Int) != 0) then
 none
 else (tY.2.ld (.n h.next) 0).bind fun Ru=>
 (AV.ag .i64 Ru).bind fun Ai=>
 (tY.2.ld (.n h.next) 1).bind fun Rv=>
 (AV.ag .i64 Rv).bind fun Lm=>
 Option.bind p0 fun MF=>
 (tY.2.ld MF.1 (MF.2+2)).bind fun Cl=>
 (AV.ag .i64 Cl).bind fun lJ=>
 (afY [(.agg [J Ai,J Lm]),J lJ] tY.2).bind fun Br=>
 (AV.ag .i64 Br.1).bind fun wg=>
 (Sw [(.p p0),J wg] Br.2).bind fun WM=>
 (AV.ag .i64 WM.1).bind fun GU=>
 (bif ((GU:Int) != 0) then
 none
 else Option.bind p0 fun q37=>
 (WM.2.ld q37.1 (q37.2+5)).bind fun OG=>
 (AV.aT OG).bind fun p39=>
 (WM.2.ld (.n h.next) 0).bind fun WR=>
 (AV.ag .i64 WR).bind fun Ou=>
 (WM.2.ld (.n h.next) 1).bind fun WS=>
 (AV.ag .i64 WS).bind fun KC=>
 (afZ [(.p p39),(.agg [J Ou,J KC]),J n5] WM.2).bind fun Ua=>
 (AV.aE 2 Ua.1).bind fun c45=>
 (AV.ag .u64 (c45.getD 0 .u)).bind fun Ue=>
 I6 c45 1 fun Rx=>(bif ((Rx:Int) != 0) then
 none
 else Option.bind p0 fun q48=>
 (Ua.2.ld q48.1 (q48.2+31)).bind fun w49=>
 (AV.ag .i64 w49).bind fun MG=>
 Option.bind p0 fun q51=>
 (Ua.2.st q51.1 (q51.2+31) [(.i .i64 (IntKind.i64.wrap (MG+wg)))]).bind fun h52=>
 Option.bind p0 fun q53=>
 (h52.ld q53.1 (q53.2+19)).bind fun w54=>
 (AV.aT w54).bind fun p55=>
 (h52.ld (.n h.next) 0).bind fun w56=>
 (AV.ag .i64 w56).bind fun n57=>
 (h52.ld (.n h.next) 1).bind fun w58=>
 (AV.ag .i64 w58).bind fun Zv=>
 (Ht [(.agg [J n57,J Zv])] h52).bind fun r60=>
 (AV.ag .i64 r60.1).bind fun n61=>
 (bc (r60.2.ld q53.1 (q53.2+19)) (some (.p p55))).bind fun _=>
 (af0 [(.p p55),J n5,J n61] r60.2).bind fun Z7=>
 (AV.ag .i64 Z7.1).bind fun n63=>
 Option.bind p0 fun q64=>
 (Z7.2.ld q64.1 (q64.2+20)).bind fun w65=>
 (AV.aT w65).bind fun p66=>
 (af1 [(.p p66),J n5] Z7.2).bind fun r67=>
 (AV.ag .i64 r67.1).bind fun n68=>
 Option.bind p0 fun q69=>
 (r67.2.ld q69.1 (q69.2+6)).bind fun w70=>
 (AV.aT w70).bind fun p71=>
 (af2 [(.p p71),J n1,(.i .u64 Ue)] r67.2).bind fun WL=>
 (AV.ag .i64 WL.1).bind fun n73=>
 some (J n73,WL.2))))))
 else none
def kD (F:Nat):Sm O:=mY gM o5 fS rB (cL F) iA lA jx e8 jy
theorem Ec:aa Tryz.prog 159:=Tryz.call159
theorem Ed (Su RX Sv afY Sw afZ Ht af0 af1 af2:Sm O):run (O:=O) Tryz.prog [(212,Su),(213,RX),(168,Sv),(214,afY),(161,Sw),(215,afZ),(217,Ht),(216,af0),(218,af1),(177,af2)] Tryz.f159 (.n .z (.n (.n (.n .z (.n .x (.n .z (.n .x .z)))) .z) (.n (.n .z (.n .z (.n .x .z))) (.n (.d [] [0,1,2,3,4,5,6,7] [0,0,2,6,14,30,63,127]) (.n (.n .z (.n .z (.n .x .z))) (.n (.d [] [0,1,2,3,4,5,6,7,8,9,10,11] [0,1,3,7,0,0,63,127,255,255,511,2047]) (.n (.n .z (.n .x .z)) (.n .z (.n (.d [] [0,1,2,3,4,5,6,7] [0,1,3,7,0,0,32,127]) (.n .z .z))))))))))=mY Su RX Sv afY Sw afZ Ht af0 af1 af2:=by kernel_rfl
theorem Bd (F:Nat):ae RO Tryz.prog 159 (kD F):=
   have h:ae RO Tryz.prog 159 (mY gM o5 fS rB (cL F) iA lA jx e8 jy):=(Ed gM o5 fS rB (cL F) iA lA jx e8 jy)▸aU (af qw (ny) <| af zO (ue) <| af pf (mE) <| af Jg (FW) <| af mV (ko F) <| af Bb (xI) <| af qg (mF) <| af CS (zn) <| af vN (sU) <| af CU (zo) <| aA) mixed Tryz.func159 (by kernel_rfl) _
   h
def je (af3:Sm O):Sm O:=fun xs h=>
 bif Nat.beq xs.length 4 then
 (AV.lN (xs.getD 0 .u)).bind fun q0=>
 (h.ld q0.1 q0.2).bind fun w1=>
 (AV.aT w1).bind fun p2=>
 (AV.lN (xs.getD 1 .u)).bind fun q3=>
 (h.ld q3.1 q3.2).bind fun w4=>
 (AV.ag .i64 w4).bind fun n5=>
 (AV.lN (xs.getD 2 .u)).bind fun q6=>
 (h.ld q6.1 q6.2).bind fun w7=>
 (AV.ag .i64 w7).bind fun n8=>
 (h.ld q6.1 (q6.2+1)).bind fun w9=>
 (AV.ag .i64 w9).bind fun cQ=>
 (AV.lN (xs.getD 3 .u)).bind fun Gm=>
 (h.ld Gm.1 Gm.2).bind fun tw=>
 (AV.ag .i64 tw).bind fun fg=>
 (af3 [(.p p2),J n5,(.agg [J n8,J cQ]),J fg] h).bind fun r14=>
 (AV.ag .i64 r14.1).bind fun gd=>
 some (J gd,r14.2)
 else none
def cM (F:Nat):Sm O:=je (kD F)
theorem mZ:aa Tryz.prog 158:=Tryz.call158
theorem zp (af3:Sm O):run (O:=O) Tryz.prog [(159,af3)] Tryz.f158 (.n .z .z)=je af3:=by kernel_rfl
theorem kq (F:Nat):ae RO Tryz.prog 158 (cM F):=
   have h:ae RO Tryz.prog 158 (je (kD F)):=(zp (kD F))▸aU (af Ec (Bd F) <| aA) mixed Tryz.func158 (by kernel_rfl) _
   h
def uR (Hq Sn:Sm O):Sm O:=fun xs h=>
 bif Nat.beq xs.length 1 then
 (AV.aT (xs.getD 0 .u)).bind fun p0=>
 Option.bind p0 fun q1=>
 (h.ld q1.1 (q1.2+3)).bind fun w2=>
 (AV.ag .i64 w2).bind fun n3=>
 (bif (decide (n3 ≥ 1048576)) then
 none
 else Option.bind p0 fun q4=>
 (h.ld q4.1 (q4.2+3)).bind fun w5=>
 (AV.ag .i64 w5).bind fun n6=>
 Option.bind p0 fun q7=>
 (h.ld q7.1 (q7.2+4)).bind fun w8=>
 (AV.ag .i64 w8).bind fun n9=>
 (bif (decide (n6<n9)) then
 none
 else Option.bind p0 fun nZ=>
 (h.ld nZ.1 (nZ.2+4)).bind fun nm=>
 (AV.ag .i64 nm).bind fun dy=>
 let v13:Int:=(if (IntKind.i64.wrap (2*dy)) > 8 then (IntKind.i64.wrap (2*dy)) else 8)
 Option.bind p0 fun vj=>
 (h.ld vj.1 vj.2).bind fun tx=>
 (AV.aT tx).bind fun WT=>
 Option.bind p0 fun Lo=>
 (h.ld Lo.1 (Lo.2+1)).bind fun Ce=>
 (AV.ag .i64 Ce).bind fun kN=>
 (Hq [(.p p0)] h).bind fun kO=>
 (AV.ag .i64 kO.1).bind fun vr=>
 (bc (kO.2.ld vj.1 vj.2) (some (.p WT))).bind fun _=>
 (bc (kO.2.ld Lo.1 (Lo.2+1)) (some (.i .i64 kN))).bind fun _=>
 (Sn [(.p WT),J kN,(.i .i64 (IntKind.i64.wrap (v13*vr)))] kO.2).bind fun tY=>
 (AV.ag .i64 tY.1).bind fun qo=>
 (bif ((qo:Int) != 0) then
 none
 else Option.bind p0 fun wR=>
 (tY.2.st wR.1 (wR.2+4) [J v13]).bind fun Vy=>
 some (J 0,Vy))))
 else none
def Ad:Sm O:=uR jt vM
theorem Ee:aa Tryz.prog 312:=Tryz.call312
theorem Ef (Hq Sn:Sm O):run (O:=O) Tryz.prog [(359,Hq),(275,Sn)] Tryz.f312 (.n .z (.n (.n (.n .z (.n .x (.n (.d [] [0,1,2,3,4,5,6,7,8,9] [0,1,3,7,0,16,48,112,255,511]) (.n .x .z)))) .z) (.n .z (.n (.n (.d [] [0,1,2,3,4,5,6,7,8,9,10,11,12,13] [0,1,3,7,0,16,48,112,0,0,512,1792,4095,8191]) (.n .z (.n .x .z))) (.n .z .z)))))=uR Hq Sn:=by kernel_rfl
theorem Be:ae RO Tryz.prog 312 Ad:=bt (Ef _ _) (af iV gr <| af uM qP <| aA) Tryz.func312 (by kernel_rfl)
def uS (af4 yS sE tA:Sm O):Sm O:=fun xs h=>
 bif Nat.beq xs.length 1 then
 (AV.aT (xs.getD 0 .u)).bind fun p0=>
 Option.bind p0 fun q1=>
 (h.ld q1.1 (q1.2+5)).bind fun w2=>
 (AV.ag .i64 w2).bind fun n3=>
 (bif ((n3:Int) == 0) then
 (af4 [(.p p0)] h).bind fun r4=>
 (AV.ag .i64 r4.1).bind fun n5=>
 (bif ((n5:Int) != 0) then
 none
 else Option.bind p0 fun q6=>
 (r4.2.ld q6.1 (q6.2+3)).bind fun w7=>
 (AV.ag .i64 w7).bind fun n8=>
 Option.bind p0 fun q9=>
 (r4.2.st q9.1 (q9.2+3) [(.i .i64 (IntKind.i64.wrap (n8+1)))]).bind fun gS=>
 Option.bind p0 fun Gm=>
 (gS.ld Gm.1 (Gm.2+3)).bind fun tw=>
 (AV.ag .i64 tw).bind fun fg=>
 Option.bind p0 fun vj=>
 (gS.ld vj.1 vj.2).bind fun tx=>
 (AV.aT tx).bind fun WT=>
 Option.bind p0 fun Lo=>
 (gS.ld Lo.1 (Lo.2+1)).bind fun Ce=>
 (AV.ag .i64 Ce).bind fun kN=>
 (yS [(.p p0),J fg,(.i .i64 (-1))] gS).bind fun kO=>
 (AV.ag .i64 kO.1).bind fun vr=>
 (bc (kO.2.ld vj.1 vj.2) (some (.p WT))).bind fun _=>
 (bc (kO.2.ld Lo.1 (Lo.2+1)) (some (.i .i64 kN))).bind fun _=>
 (sE [(.p WT),J kN,J vr,(.i .u64 1)] kO.2).bind fun tY=>
 (AV.ag .i64 tY.1).bind fun qo=>
 Option.bind p0 fun wR=>
 (tY.2.ld wR.1 (wR.2+6)).bind fun FL=>
 (AV.ag .i64 FL).bind fun ji=>
 Option.bind p0 fun q27=>
 (tY.2.st q27.1 (q27.2+6) [(.i .i64 (IntKind.i64.wrap (ji+1)))]).bind fun H4=>
 some ((.aS [J fg,J 0]),H4))
 else none)
 else none
def Ae:Sm O:=uS Ad ke fT gU
theorem Eg:aa Tryz.prog 269:=Tryz.call269
theorem Eh (af4 yS sE tA:Sm O):run (O:=O) Tryz.prog [(312,af4),(313,yS),(224,sE),(281,tA)] Tryz.f269 (.n .z (.n .z (.n (.n .z (.n (.n (.n .z (.n .z (.n .x .z))) (.n .z (.n .z (.n (.d [] [0,1,2,3,4,5,6,7,8,9,10,11] [0,1,3,7,0,16,48,112,0,0,768,2047]) (.n .z .z))))) .x)) (.n (.d [] [0,1,2,3,4,5,6,7,8,9,10,11,12,13,14,15,16] [0,1,3,7,0,16,48,112,0,0,768,2047,4095,8191,8191,16383,65535]) (.n (.d [] [0,1,2,3,4,5,6,7,8,9,10,11,12,13,14,15,16] [0,1,3,7,0,16,48,112,0,0,768,2047,4095,8191,8191,16383,65535]) (.n (.d [] [0,1,2,3,4,5,6,7,8,9,11,12,10,13] [0,1,3,7,0,16,48,112,0,0,768,0,2048,8191]) (.n (.d [] [0,1,2,3,4,5,6,7,8,9,11,12,13,14,10,15] [0,1,3,7,0,16,48,112,0,0,768,0,2048,6144,14336,32767]) (.n .z (.n .z .z)))))))))=uS af4 yS sE tA:=by kernel_rfl
theorem Bg:ae RO Tryz.prog 269 Ae:=bt (Eh _ _ _ _) (af Ee Be <| af iw fH <| af eC dC <| af eW dN <| aA) Tryz.func269 (by kernel_rfl)
def m0 (Hu Sk:Sm O):Sm O:=fun xs h=>
 bif Nat.beq xs.length 1 then
 (AV.asAgg 5 (xs.getD 0 .u)).bind fun c0=>
 (AV.aT (c0.getD 0 .u)).bind fun p1=>
 I6 c0 1 fun n2=>I6 c0 2 fun n3=>I6 c0 3 fun n4=>I6 c0 4 fun n5=>let h6:=h.bump 1
 let h7:=h6.put h.next (.cells true 368 [(.p p1),J n2,J n3,J n4,J n5])
 (h7.ld (.n h.next) 0).bind fun w8=>
 (AV.aT w8).bind fun p9=>
 (h7.ld (.n h.next) 1).bind fun wP=>
 (AV.ag .i64 wP).bind fun dZ=>
 (h7.ld (.n h.next) 2).bind fun tw=>
 (AV.ag .i64 tw).bind fun fg=>
 (h7.ld (.n h.next) 3).bind fun ou=>
 (AV.ag .i64 ou).bind fun gd=>
 (h7.ld (.n h.next) 4).bind fun vl=>
 (AV.ag .i64 vl).bind fun iO=>
 (Hu [(.agg [(.p p9),J dZ,J fg,J gd,J iO])] h7).bind fun gb=>
 (AV.aV gb.1).bind fun b19=>
 (bif (!b19) then
 none
 else (gb.2.ld (.n h.next) 0).bind fun DL=>
 (AV.aT DL).bind fun p21=>
 (gb.2.ld (.n h.next) 1).bind fun IZ=>
 (AV.ag .i64 IZ).bind fun qo=>
 (Sk [(.p p21),J qo] gb.2).bind fun tq=>
 (AV.aE 2 tq.1).bind fun XQ=>
 I6 XQ 0 fun ji=>I6 XQ 1 fun Ai=>(tq.2.ld (.n h.next) 2).bind fun Rv=>
 (AV.ag .i64 Rv).bind fun Lm=>
 (bif (Lm == 0) then
 none
 else some ((.i .i64 (IntKind.i64.wrap (Int.tdiv ji Lm))),tq.2)))
 else none
def pE:Sm O:=m0 gA vL
theorem vR:aa Tryz.prog 361:=Tryz.call361
theorem vS (Hu Sk:Sm O):run (O:=O) Tryz.prog [(360,Hu),(323,Sk)] Tryz.f361 (.n .z (.n (.n .z (.n .x .z)) (.n .z .z)))=m0 Hu Sk:=by kernel_rfl
theorem sY:ae RO Tryz.prog 361 pE:=bt (vS _ _) (af gB fq <| af uK qN <| aA) Tryz.func361 (by kernel_rfl)
def pF (Hu af5:Sm O):Sm O:=fun xs h=>
 bif Nat.beq xs.length 2 then
 (AV.asAgg 5 (xs.getD 0 .u)).bind fun c0=>
 (AV.aT (c0.getD 0 .u)).bind fun p1=>
 I6 c0 1 fun n2=>I6 c0 2 fun n3=>I6 c0 3 fun n4=>I6 c0 4 fun n5=>(AV.ag .i64 (xs.getD 1 .u)).bind fun n6=>
 let h7:=h.bump 1
 let h8:=h7.put h.next (.cells true 368 [(.p p1),J n2,J n3,J n4,J n5])
 (h8.ld (.n h.next) 0).bind fun w9=>
 (AV.aT w9).bind fun Vz=>
 (h8.ld (.n h.next) 1).bind fun nm=>
 (AV.ag .i64 nm).bind fun dy=>
 (h8.ld (.n h.next) 2).bind fun tz=>
 (AV.ag .i64 tz).bind fun fW=>
 (h8.ld (.n h.next) 3).bind fun tx=>
 (AV.ag .i64 tx).bind fun jN=>
 (h8.ld (.n h.next) 4).bind fun vk=>
 (AV.ag .i64 vk).bind fun jX=>
 (Hu [(.agg [(.p Vz),J dy,J fW,J jN,J jX])] h8).bind fun r19=>
 (AV.aV r19.1).bind fun b20=>
 (bif (!b20) then
 none
 else ((bif ((decide (n6<1)) == false) then
 (r19.2.ld (.n h.next) 0).bind fun yF=>
 (AV.aT yF).bind fun p22=>
 (r19.2.ld (.n h.next) 1).bind fun I1=>
 (AV.ag .i64 I1).bind fun rZ=>
 (r19.2.ld (.n h.next) 2).bind fun FL=>
 (AV.ag .i64 FL).bind fun ji=>
 (r19.2.ld (.n h.next) 3).bind fun yM=>
 (AV.ag .i64 yM).bind fun jo=>
 (r19.2.ld (.n h.next) 4).bind fun yH=>
 (AV.ag .i64 yH).bind fun ot=>
 (af5 [(.agg [(.p p22),J rZ,J ji,J jo,J ot])] r19.2).bind fun Lp=>
 (AV.ag .i64 Lp.1).bind fun lJ=>
 some ([(.b (decide (n6 > lJ)))],Lp.2)
 else some ([(.b true)],r19.2)):Option (List AV × AH O)).bind fun Br=>
 (AV.aV (Br.1.getD 0 .u)).bind fun b34=>
 (bif b34 then
 none
 else some (J 0,Br.2)))
 else none
def sZ:Sm O:=pF gA pE
theorem zq:aa Tryz.prog 316:=Tryz.call316
theorem zr (Hu af5:Sm O):run (O:=O) Tryz.prog [(360,Hu),(361,af5)] Tryz.f316 (.n .z (.n (.n (.n .z (.n .x (.n (.g [(2,4,[(17,.one .b)])]) (.n .x .z)))) .z) .z))=pF Hu af5:=by kernel_rfl
theorem vT:ae RO Tryz.prog 316 sZ:=bt (zr _ _) (af gB fq <| af vR sY <| aA) Tryz.func316 (by kernel_rfl)
def qT (af6 R2:Sm O):Sm O:=fun xs h=>
 bif Nat.beq xs.length 3 then
 (AV.asAgg 5 (xs.getD 0 .u)).bind fun c0=>
 (AV.aT (c0.getD 0 .u)).bind fun p1=>
 I6 c0 1 fun n2=>I6 c0 2 fun n3=>I6 c0 3 fun n4=>I6 c0 4 fun n5=>(AV.asAgg 3 (xs.getD 1 .u)).bind fun c6=>
 I6 c6 0 fun n7=>I6 c6 1 fun n8=>I6 c6 2 fun n9=>(AV.ag .i64 (xs.getD 2 .u)).bind fun cQ=>
 let iM:=h.bump 3
 let G9:=iM.put h.next (.cells true 368 [(.p p1),J n2,J n3,J n4,J n5])
 let nk:=G9.put (h.next+1) (.cells true 280 [J n7,J n8,J n9])
 let tu:=nk.put ((h.next+1)+1) (.cells true 280 [J 0,J 0,J 0])
 (tu.ld (.n h.next) 0).bind fun tx=>
 (AV.aT tx).bind fun WT=>
 (tu.ld (.n h.next) 1).bind fun vk=>
 (AV.ag .i64 vk).bind fun jX=>
 (tu.ld (.n h.next) 2).bind fun I5=>
 (AV.ag .i64 I5).bind fun nv=>
 (tu.ld (.n h.next) 3).bind fun yF=>
 (AV.ag .i64 yF).bind fun fC=>
 (tu.ld (.n h.next) 4).bind fun I1=>
 (AV.ag .i64 I1).bind fun rZ=>
 (af6 [(.agg [(.p WT),J jX,J nv,J fC,J rZ]),J cQ] tu).bind fun Dz=>
 (AV.ag .i64 Dz.1).bind fun ji=>
 (bif ((ji:Int) != 0) then
 none
 else (Dz.2.ld (.n h.next) 0).bind fun yM=>
 (AV.aT yM).bind fun p28=>
 (Dz.2.ld (.n h.next) 1).bind fun yH=>
 (AV.ag .i64 yH).bind fun ot=>
 (Dz.2.ld (.n h.next) 2).bind fun Cl=>
 (AV.ag .i64 Cl).bind fun lJ=>
 (Dz.2.ld (.n h.next) 3).bind fun FE=>
 (AV.ag .i64 FE).bind fun wg=>
 (Dz.2.ld (.n h.next) 4).bind fun Rw=>
 (AV.ag .i64 Rw).bind fun GU=>
 (Dz.2.ld (.n h.next) 4).bind fun M1=>
 (AV.ag .i64 M1).bind fun GV=>
 (Dz.2.ld (.n (h.next+1)) 1).bind fun Zn=>
 (AV.ag .i64 Zn).bind fun n40=>
 (R2 [(.agg [(.p p28),J ot,J lJ,J wg,J GU]),J cQ,J GV,J n40] Dz.2).bind fun Of=>
 (AV.aE 0 Of.1).bind fun c42=>
 (Of.2.ld (.n h.next) 0).bind fun ZF=>
 (AV.aT ZF).bind fun p44=>
 (Of.2.ld (.n h.next) 1).bind fun w45=>
 (AV.ag .i64 w45).bind fun Ue=>
 (Of.2.ld (.n h.next) 2).bind fun w47=>
 (AV.ag .i64 w47).bind fun WC=>
 (Of.2.ld (.n h.next) 3).bind fun w49=>
 (AV.ag .i64 w49).bind fun MG=>
 (Of.2.ld (.n h.next) 4).bind fun w51=>
 (AV.ag .i64 w51).bind fun Zo=>
 (Of.2.ld (.n h.next) 3).bind fun w53=>
 (AV.ag .i64 w53).bind fun SF=>
 (R2 [(.agg [(.p p44),J Ue,J WC,J MG,J Zo]),J cQ,J SF,J 0] Of.2).bind fun r55=>
 (AV.aE 0 r55.1).bind fun c56=>
 (r55.2.ld (.n (h.next+1)) 2).bind fun Zp=>
 (AV.ag .i64 Zp).bind fun Uk=>
 (bif ((Uk:Int) == 0) then
 (r55.2.st (.n ((h.next+1)+1)) 0 [J cQ,J cQ,J 1]).bind fun h59=>
 (h59.ld (.n ((h.next+1)+1)) 0).bind fun w60=>
 (AV.ag .i64 w60).bind fun n61=>
 (h59.ld (.n ((h.next+1)+1)) 1).bind fun w62=>
 (AV.ag .i64 w62).bind fun n63=>
 (h59.ld (.n ((h.next+1)+1)) 2).bind fun w64=>
 (AV.ag .i64 w64).bind fun Vs=>
 some ((.aS [(.agg [J n61,J n63,J Vs]),J 0]),h59)
 else none))
 else none
def uT:Sm O:=qT sZ oB
theorem Bh:aa Tryz.prog 272:=Tryz.call272
theorem Bi (af6 R2:Sm O):run (O:=O) Tryz.prog [(316,af6),(317,R2)] Tryz.f272 (.n .z (.n (.n .z (.n .z (.n .x .z))) (.n .z (.n .z (.n (.n .z (.n .z .x)) (.n .z .z))))))=qT af6 R2:=by kernel_rfl
theorem xJ:ae RO Tryz.prog 272 uT:=bt (Bi _ _) (af zq vT <| af px mN <| aA) Tryz.func272 (by kernel_rfl)
def Af:Sm O:=fun xs h=>
 bif Nat.beq xs.length 2 then
 (AV.ag .i64 (xs.getD 0 .u)).bind fun n0=>
 (AV.ag .i64 (xs.getD 1 .u)).bind fun n1=>
 let v2:Int:=(bE .or .i64 (IntKind.i64.wrap (n1*2 ^ 20)) (IntKind.i64.wrap (n0 - 1)))
 some (J v2,h)
 else none
def EU:Sm O:=Af
theorem HK:aa Tryz.prog 273:=Tryz.call273
theorem HL:run (O:=O) Tryz.prog [] Tryz.f273 (.n .z .z)=Af:=by kernel_rfl
theorem Ei:ae RO Tryz.prog 273 EU:=bt HL (aA) Tryz.func273 (by kernel_rfl)
def m6 (af7 AG O0 af8 RU af9:Sm O):Sm O:=fun xs h=>
 bif Nat.beq xs.length 2 then
 (AV.aT (xs.getD 0 .u)).bind fun p0=>
 (AV.ag .u64 (xs.getD 1 .u)).bind fun n1=>
 Option.bind p0 fun q2=>
 (h.ld q2.1 q2.2).bind fun w3=>
 (AV.aT w3).bind fun p4=>
 (af7 [(.p p4)] h).bind fun r5=>
 (AV.aE 2 r5.1).bind fun c6=>
 I6 c6 0 fun n7=>I6 c6 1 fun n8=>(bif ((n8:Int) != 0) then
 none
 else Option.bind p0 fun q9=>
 (r5.2.ld q9.1 q9.2).bind fun wP=>
 (AV.aT wP).bind fun p11=>
 (AG [(.p p11),J n7,J 0,(.i .u64 n1)] r5.2).bind fun fa=>
 (AV.ag .i64 fa.1).bind fun fg=>
 Option.bind p0 fun vj=>
 (fa.2.ld vj.1 (vj.2+1)).bind fun tx=>
 (AV.ag .i64 tx).bind fun jN=>
 (fa.2.ld vj.1 ((vj.2+1)+1)).bind fun vk=>
 (AV.ag .i64 vk).bind fun jX=>
 (fa.2.ld vj.1 (((vj.2+1)+1)+1)).bind fun I5=>
 (AV.ag .i64 I5).bind fun nv=>
 (O0 [(.p p0)] fa.2).bind fun Bt=>
 (AV.asAgg 5 Bt.1).bind fun ZI=>
 (AV.aT (ZI.getD 0 .u)).bind fun p23=>
 I6 ZI 1 fun rZ=>I6 ZI 2 fun wj=>I6 ZI 3 fun ji=>I6 ZI 4 fun Ai=>(bc (Bt.2.ld vj.1 (vj.2+1)) (some (.i .i64 jN))).bind fun _=>
 (bc (Bt.2.ld vj.1 ((vj.2+1)+1)) (some (.i .i64 jX))).bind fun _=>
 (bc (Bt.2.ld vj.1 (((vj.2+1)+1)+1)) (some (.i .i64 nv))).bind fun _=>
 (af8 [(.agg [(.p p23),J rZ,J wj,J ji,J Ai]),(.agg [J jN,J jX,J nv]),J n7] Bt.2).bind fun Uc=>
 (AV.aE 2 Uc.1).bind fun c29=>
 (AV.asAgg 3 (c29.getD 0 .u)).bind fun c30=>
 I6 c30 0 fun SH=>I6 c30 1 fun lJ=>I6 c30 2 fun RH=>I6 c29 1 fun wg=>Option.bind p0 fun q35=>
 (Uc.2.st q35.1 (q35.2+1) [J SH,J lJ,J RH]).bind fun h36=>
 Option.bind p0 fun q37=>
 (h36.ld q37.1 q37.2).bind fun OG=>
 (AV.aT OG).bind fun p39=>
 (RU [(.p p39),J n7] h36).bind fun Vx=>
 (AV.ag .i64 Vx.1).bind fun Ou=>
 (af9 [J n7,J Ou] Vx.2).bind fun r42=>
 (AV.ag .i64 r42.1).bind fun KC=>
 some ((.aS [J KC,J 0]),r42.2))
 else none
def pG:Sm O:=m6 Ae da cZ uT sq EU
theorem vU:aa Tryz.prog 222:=Tryz.call222
theorem vV (af7 AG O0 af8 RU af9:Sm O):run (O:=O) Tryz.prog [(269,af7),(270,AG),(271,O0),(272,af8),(274,RU),(273,af9)] Tryz.f222 (.n .z (.n .z (.n (.n .z (.n .x .z)) (.n .z (.n (.d [] [0,1,3,4,5,6,7,2,8,9,10,11,12,13,14] [0,0,2,0,8,24,56,0,254,510,1022,1022,2047,6143,14335]) .z)))))=m6 af7 AG O0 af8 RU af9:=by kernel_rfl
theorem ta:ae RO Tryz.prog 222 pG:=bt (vV _ _ _ _ _ _) (af Eg Bg <| af gD eZ <| af i4 gN <| af Bh xJ <| af sr pb <| af HK Ei <| aA) Tryz.func222 (by kernel_rfl)
def tb (af':Sm O):Sm O:=fun xs h=>
 bif Nat.beq xs.length 1 then
 (AV.aT (xs.getD 0 .u)).bind fun p0=>
 Option.bind p0 fun q1=>
 (h.ld q1.1 (q1.2+1)).bind fun w2=>
 (AV.aT w2).bind fun p3=>
 (af' [(.p p3),(.i .u64 0)] h).bind fun r4=>
 (AV.aE 2 r4.1).bind fun c5=>
 I6 c5 0 fun n6=>I6 c5 1 fun n7=>some ((.aS [J n6,J n7]),r4.2)
 else none
def jA:Sm O:=tb pG
theorem CW:aa Tryz.prog 162:=Tryz.call162
theorem CX (af':Sm O):run (O:=O) Tryz.prog [(222,af')] Tryz.f162 (.n .z .z)=tb af':=by kernel_rfl
theorem zt:ae RO Tryz.prog 162 jA:=bt (CX _) (af vU ta <| aA) Tryz.func162 (by kernel_rfl)
def hJ (Sw aga:Sm O):Sm O:=fun xs h=>
 bif Nat.beq xs.length 2 then
 (AV.lN (xs.getD 0 .u)).bind fun q0=>
 (h.ld q0.1 q0.2).bind fun w1=>
 (AV.aT w1).bind fun p2=>
 (Sw [(.p p2),J 4] h).bind fun r3=>
 (AV.ag .i64 r3.1).bind fun n4=>
 (bif ((n4:Int) != 0) then
 none
 else (AV.lN (xs.getD 0 .u)).bind fun q5=>
 (r3.2.ld q5.1 q5.2).bind fun w6=>
 (AV.aT w6).bind fun p7=>
 Option.bind p7 fun q8=>
 (r3.2.ld q8.1 (q8.2+6)).bind fun w9=>
 (AV.aT w9).bind fun Vz=>
 (aga [(.p Vz)] r3.2).bind fun oq=>
 (AV.aE 2 oq.1).bind fun c12=>
 I6 c12 0 fun fg=>I6 c12 1 fun fW=>(AV.lN (xs.getD 1 .u)).bind fun q15=>
 (oq.2.st q15.1 q15.2 [J fg]).bind fun zI=>
 some (J fW,zI))
 else none
def cu (F:Nat):Sm O:=hJ (cL F) jA
theorem lF:aa Tryz.prog 160:=Tryz.call160
theorem xK (Sw aga:Sm O):run (O:=O) Tryz.prog [(161,Sw),(162,aga)] Tryz.f160 (.n .z (.n (.n .z (.n .z (.n .x .z))) (.n .z (.n .z .z))))=hJ Sw aga:=by kernel_rfl
theorem jH (F:Nat):ae RO Tryz.prog 160 (cu F):=
   have h:ae RO Tryz.prog 160 (hJ (cL F) jA):=(xK (cL F) jA)▸aU (af mV (ko F) <| af CW (zt) <| aA) mixed Tryz.func160 (by kernel_rfl) _
   h
def qU (Sv:Sm O):Sm O:=fun xs h=>
 bif Nat.beq xs.length 2 then
 (AV.aT (xs.getD 0 .u)).bind fun p0=>
 (AV.ag .i64 (xs.getD 1 .u)).bind fun n1=>
 Option.bind p0 fun q2=>
 (h.ld q2.1 (q2.2+6)).bind fun w3=>
 (AV.aT w3).bind fun p4=>
 (Sv [(.p p4),J n1] h).bind fun r5=>
 (AV.aE 2 r5.1).bind fun c6=>
 (AV.ag .u64 (c6.getD 0 .u)).bind fun n7=>
 I6 c6 1 fun n8=>((bif (((n8:Int) == 0) == true) then
 some ([(.b ((n7:Int) == 0))],r5.2)
 else some ([(.b false)],r5.2)):Option (List AV × AH O)).bind fun r9=>
 (AV.aV (r9.1.getD 0 .u)).bind fun b10=>
 (bif b10 then
 none
 else some ((.aS [(.i .u64 n7),J n8]),r9.2))
 else none
def uU:Sm O:=qU fS
theorem Bj:aa Tryz.prog 167:=Tryz.call167
theorem Bk (Sv:Sm O):run (O:=O) Tryz.prog [(168,Sv)] Tryz.f167 (.n .z (.n .z (.n (.n (.g [(2,2,[(22,.one .b)])]) (.n .x .z)) .z)))=qU Sv:=by kernel_rfl
theorem xL:ae RO Tryz.prog 167 uU:=bt (Bk _) (af pf mE <| aA) Tryz.func167 (by kernel_rfl)
def nO (Uw ZB:Sm O):Sm O:=fun xs h=>
 bif Nat.beq xs.length 2 then
 (AV.aT (xs.getD 0 .u)).bind fun p0=>
 (AV.ag .u64 (xs.getD 1 .u)).bind fun n1=>
 let h2:=h.bump 1
 let h3:=h2.put h.next (.cells true 47 [J 0,J 0,J 0,J 0,(.b false)])
 (Uw [(.p p0),(.i .u64 n1),J 0] h3).bind fun r4=>
 (AV.aE 2 r4.1).bind fun c5=>
 (AV.ag .u64 (c5.getD 0 .u)).bind fun n6=>
 I6 c5 1 fun n7=>(bif ((n7:Int) != 0) then
 none
 else (ZB [(.i .u64 n6)] r4.2).bind fun r8=>
 (AV.aE 2 r8.1).bind fun c9=>
 (AV.asAgg 5 (c9.getD 0 .u)).bind fun Gl=>
 I6 Gl 0 fun dZ=>I6 Gl 1 fun dy=>I6 Gl 2 fun fg=>I6 Gl 3 fun fW=>(AV.aV (Gl.getD 4 .u)).bind fun XM=>
 I6 c9 1 fun jN=>(r8.2.st (.n h.next) 0 [J dZ,J dy,J fg,J fW,(.b XM)]).bind fun Ln=>
 (Ln.ld (.n h.next) 0).bind fun Ce=>
 (AV.ag .i64 Ce).bind fun kN=>
 (Ln.ld (.n h.next) 1).bind fun DL=>
 (AV.ag .i64 DL).bind fun vr=>
 (Ln.ld (.n h.next) 2).bind fun IZ=>
 (AV.ag .i64 IZ).bind fun qo=>
 (Ln.ld (.n h.next) 3).bind fun OJ=>
 (AV.ag .i64 OJ).bind fun wj=>
 (Ln.ld (.n h.next) 4).bind fun Ru=>
 (AV.aV Ru).bind fun b27=>
 some ((.aS [(.agg [J kN,J vr,J qo,J wj,(.b b27)]),J jN]),Ln))
 else none
def qV:Sm O:=nO mR cR
theorem xM:aa Tryz.prog 190:=Tryz.call190
theorem xN (Uw ZB:Sm O):run (O:=O) Tryz.prog [(234,Uw),(60,ZB)] Tryz.f190 (.n .z (.n .z (.n (.n .z (.n .x .z)) .z)))=nO Uw ZB:=by kernel_rfl
theorem tH:ae RO Tryz.prog 190 qV:=bt (xN _ _) (af nL lD <| af mq jQ <| aA) Tryz.func190 (by kernel_rfl)
def nP (agb agc:Sm O):Sm O:=fun xs h=>
 bif Nat.beq xs.length 3 then
 (AV.lN (xs.getD 0 .u)).bind fun q0=>
 (h.ld q0.1 q0.2).bind fun w1=>
 (AV.aT w1).bind fun p2=>
 (AV.lN (xs.getD 1 .u)).bind fun q3=>
 (h.ld q3.1 q3.2).bind fun w4=>
 (AV.ag .i64 w4).bind fun n5=>
 (agb [(.p p2),J n5] h).bind fun r6=>
 (AV.aE 2 r6.1).bind fun c7=>
 (AV.ag .u64 (c7.getD 0 .u)).bind fun n8=>
 I6 c7 1 fun n9=>(bif ((n9:Int) != 0) then
 none
 else let gS:=r6.2.bump 1
 (AV.lN (xs.getD 0 .u)).bind fun Gm=>
 (gS.ld Gm.1 Gm.2).bind fun tw=>
 (AV.aT tw).bind fun p13=>
 Option.bind p13 fun vj=>
 (gS.ld vj.1 (vj.2+5)).bind fun tx=>
 (AV.aT tx).bind fun WT=>
 (agc [(.p WT),(.i .u64 n8)] gS).bind fun H6=>
 (AV.aE 2 H6.1).bind fun c18=>
 (AV.asAgg 5 (c18.getD 0 .u)).bind fun Ro=>
 I6 Ro 0 fun nv=>I6 Ro 1 fun vr=>I6 Ro 2 fun fC=>I6 Ro 3 fun qo=>(AV.aV (Ro.getD 4 .u)).bind fun b24=>
 I6 c18 1 fun wj=>let h26:=H6.2.put r6.2.next (.cells true 47 [J 0,J 0,J 0,J 0,(.b false)])
 (h26.st (.n r6.2.next) 0 [J nv,J vr,J fC,J qo,(.b b24)]).bind fun Rf=>
 (Rf.ld (.n r6.2.next) 0).bind fun Rv=>
 (AV.ag .i64 Rv).bind fun Lm=>
 (Rf.ld (.n r6.2.next) 1).bind fun w30=>
 (AV.ag .i64 w30).bind fun SH=>
 (Rf.ld (.n r6.2.next) 2).bind fun w32=>
 (AV.ag .i64 w32).bind fun RH=>
 (Rf.ld (.n r6.2.next) 3).bind fun w34=>
 (AV.ag .i64 w34).bind fun Vw=>
 (Rf.ld (.n r6.2.next) 4).bind fun Ui=>
 (AV.aV Ui).bind fun b37=>
 (AV.lN (xs.getD 2 .u)).bind fun q38=>
 (Rf.st q38.1 q38.2 [J Lm,J SH,J RH,J Vw,(.b b37)]).bind fun Od=>
 some (J wj,Od))
 else none
def cv:Sm O:=nP uU qV
theorem lG:aa Tryz.prog 189:=Tryz.call189
theorem xO (agb agc:Sm O):run (O:=O) Tryz.prog [(167,agb),(190,agc)] Tryz.f189 (.n .z (.n .z (.n (.n .z (.n .x .z)) (.n .z (.n .z .z)))))=nP agb agc:=by kernel_rfl
theorem jI:ae RO Tryz.prog 189 cv:=bt (xO _ _) (af Bj xL <| af xM tH <| aA) Tryz.func189 (by kernel_rfl)
def m7:Sm O:=fun xs h=>
 bif Nat.beq xs.length 1 then
 (AV.asAgg 4 (xs.getD 0 .u)).bind fun c0=>
 (AV.ag .u64 (c0.getD 0 .u)).bind fun n1=>
 (AV.ag .u64 (c0.getD 1 .u)).bind fun n2=>
 (AV.ag .u64 (c0.getD 2 .u)).bind fun n3=>
 (AV.ag .u64 (c0.getD 3 .u)).bind fun n4=>
 let h5:=h.bump 3
 let h6:=h5.put h.next (.cells true 181 [(.i .u64 n1),(.i .u64 n2),(.i .u64 n3),(.i .u64 n4)])
 let h7:=h6.put (h.next+1) (.cells true 177 [(.i .u64 0),(.i .u64 0)])
 let h8:=h7.put ((h.next+1)+1) (.cells true 177 [(.i .u64 0),(.i .u64 0)])
 (h8.ld (.n h.next) 0).bind fun w9=>
 (AV.ag .u64 w9).bind fun cQ=>
 (h8.ld (.n h.next) 1).bind fun nm=>
 (AV.ag .u64 nm).bind fun dy=>
 (h8.ld (.n h.next) 2).bind fun tz=>
 (AV.ag .u64 tz).bind fun fW=>
 (h8.ld (.n h.next) 3).bind fun tx=>
 (AV.ag .u64 tx).bind fun jN=>
 (h8.st (.n (h.next+1)) 0 [(.i .u64 cQ),(.i .u64 dy)]).bind fun Ln=>
 (bc (Ln.ld (.n h.next) 2) (some (.i .u64 fW))).bind fun _=>
 (bc (Ln.ld (.n h.next) 3) (some (.i .u64 jN))).bind fun _=>
 (Ln.st (.n ((h.next+1)+1)) 0 [(.i .u64 fW),(.i .u64 jN)]).bind fun qp=>
 (qp.ld (.n (h.next+1)) 0).bind fun I5=>
 (AV.ag .u64 I5).bind fun nv=>
 (qp.ld (.n (h.next+1)) 1).bind fun yF=>
 (AV.ag .u64 yF).bind fun fC=>
 (qp.ld (.n ((h.next+1)+1)) 0).bind fun I1=>
 (AV.ag .u64 I1).bind fun rZ=>
 (qp.ld (.n ((h.next+1)+1)) 1).bind fun FL=>
 (AV.ag .u64 FL).bind fun ji=>
 some ((.aS [(.agg [(.i .u64 nv),(.i .u64 fC)]),(.agg [(.i .u64 rZ),(.i .u64 ji)])]),qp)
 else none
def e9:Sm O:=m7
theorem vW:aa Tryz.prog 117:=Tryz.call117
theorem vX:run (O:=O) Tryz.prog [] Tryz.f117 (.n .z (.n (.d [] [0,1,2,3,4,5,6,7] [0,1,3,0,8,24,7,127]) .z))=m7:=by kernel_rfl
theorem tc:ae RO Tryz.prog 117 e9:=bt vX (aA) Tryz.func117 (by kernel_rfl)
def pH (o7:Sm O):Sm O:=fun xs h=>
 bif Nat.beq xs.length 2 then
 (AV.asAgg 4 (xs.getD 0 .u)).bind fun c0=>
 (AV.ag .u64 (c0.getD 0 .u)).bind fun n1=>
 (AV.ag .u64 (c0.getD 1 .u)).bind fun n2=>
 (AV.ag .u64 (c0.getD 2 .u)).bind fun n3=>
 (AV.ag .u64 (c0.getD 3 .u)).bind fun n4=>
 (AV.asAgg 2 (xs.getD 1 .u)).bind fun c5=>
 (AV.ag .u64 (c5.getD 0 .u)).bind fun n6=>
 (AV.ag .u64 (c5.getD 1 .u)).bind fun n7=>
 let h8:=h.bump 3
 let h9:=h8.put h.next (.cells true 181 [(.i .u64 n1),(.i .u64 n2),(.i .u64 n3),(.i .u64 n4)])
 let gS:=h9.put (h.next+1) (.cells true 177 [(.i .u64 n6),(.i .u64 n7)])
 let iM:=gS.put ((h.next+1)+1) (.cells true 181 [(.i .u64 0),(.i .u64 0),(.i .u64 0),(.i .u64 0)])
 (iM.ld (.n h.next) 2).bind fun tw=>
 (AV.ag .u64 tw).bind fun fg=>
 (iM.ld (.n h.next) 3).bind fun ou=>
 (AV.ag .u64 ou).bind fun gd=>
 (iM.ld (.n (h.next+1)) 0).bind fun vl=>
 (AV.ag .u64 vl).bind fun iO=>
 (iM.ld (.n (h.next+1)) 1).bind fun Ce=>
 (AV.ag .u64 Ce).bind fun kN=>
 (o7 [(.agg [(.i .u64 fg),(.i .u64 gd)]),(.agg [(.i .u64 iO),(.i .u64 kN)])] iM).bind fun kO=>
 (AV.aE 2 kO.1).bind fun Us=>
 (AV.asAgg 2 (Us.getD 0 .u)).bind fun ZI=>
 (AV.ag .u64 (ZI.getD 0 .u)).bind fun qo=>
 (AV.ag .u64 (ZI.getD 1 .u)).bind fun rZ=>
 (AV.aV (Us.getD 1 .u)).bind fun b25=>
 (kO.2.st (.n h.next) 2 [(.i .u64 qo),(.i .u64 rZ)]).bind fun h26=>
 (h26.ld (.n h.next) 0).bind fun yM=>
 (AV.ag .u64 yM).bind fun jo=>
 (h26.ld (.n h.next) 1).bind fun yH=>
 (AV.ag .u64 yH).bind fun ot=>
 (h26.ld (.n h.next) 2).bind fun Cl=>
 (AV.ag .u64 Cl).bind fun lJ=>
 (h26.ld (.n h.next) 3).bind fun FE=>
 (AV.ag .u64 FE).bind fun wg=>
 (h26.st (.n ((h.next+1)+1)) 0 [(.i .u64 jo),(.i .u64 ot),(.i .u64 lJ),(.i .u64 wg)]).bind fun wO=>
 (wO.ld (.n ((h.next+1)+1)) 0).bind fun Ui=>
 (AV.ag .u64 Ui).bind fun OX=>
 (wO.ld (.n ((h.next+1)+1)) 1).bind fun OG=>
 (AV.ag .u64 OG).bind fun Ot=>
 (wO.ld (.n ((h.next+1)+1)) 2).bind fun WR=>
 (AV.ag .u64 WR).bind fun Ou=>
 (wO.ld (.n ((h.next+1)+1)) 3).bind fun WS=>
 (AV.ag .u64 WS).bind fun KC=>
 some ((.agg [(.i .u64 OX),(.i .u64 Ot),(.i .u64 Ou),(.i .u64 KC)]),wO)
 else none
def gH:Sm O:=pH xa
theorem zu:aa Tryz.prog 118:=Tryz.call118
theorem zw (o7:Sm O):run (O:=O) Tryz.prog [(155,o7)] Tryz.f118 (.n .z (.n .z .z))=pH o7:=by kernel_rfl
theorem vY:ae RO Tryz.prog 118 gH:=bt (zw _) (af mz iX <| aA) Tryz.func118 (by kernel_rfl)
def m8 (O5 acf OV O3 acg UH UI UJ:Sm O):Sm O:=fun xs h=>
 bif Nat.beq xs.length 2 then
 (AV.aT (xs.getD 0 .u)).bind fun p0=>
 (AV.Qt (xs.getD 1 .u)).bind fun f1=>
 Option.bind p0 fun q2=>
 (h.ld q2.1 (q2.2+15)).bind fun w3=>
 (AV.ag .u64 w3).bind fun n4=>
 (h.ld q2.1 ((q2.2+15)+1)).bind fun w5=>
 (AV.ag .u64 w5).bind fun n6=>
 (h.ld q2.1 (((q2.2+15)+1)+1)).bind fun w7=>
 (AV.ag .u64 w7).bind fun n8=>
 (h.ld q2.1 ((((q2.2+15)+1)+1)+1)).bind fun w9=>
 (AV.ag .u64 w9).bind fun cQ=>
 (O5 [(.agg [(.i .u64 n4),(.i .u64 n6),(.i .u64 n8),(.i .u64 cQ)]),J 0,J 1] h).bind fun oq=>
 (AV.asAgg 4 oq.1).bind fun c12=>
 (AV.ag .u64 (c12.getD 0 .u)).bind fun fg=>
 (AV.ag .u64 (c12.getD 1 .u)).bind fun fW=>
 (AV.ag .u64 (c12.getD 2 .u)).bind fun gd=>
 (AV.ag .u64 (c12.getD 3 .u)).bind fun jN=>
 Option.bind p0 fun Lo=>
 (oq.2.st Lo.1 (Lo.2+15) [(.i .u64 fg),(.i .u64 fW),(.i .u64 gd),(.i .u64 jN)]).bind fun qp=>
 (JA [(116,O5),(117,acf),(83,OV),(119,O3),(118,acg),(158,UH),(160,UI),(189,UJ)] f1 [] qp).bind fun r19=>
 (AV.ag .i64 r19.1).bind fun nv=>
 let Rt:=r19.2.bump 2
 Option.bind p0 fun q22=>
 (Rt.ld q22.1 (q22.2+15)).bind fun I1=>
 (AV.ag .u64 I1).bind fun rZ=>
 (Rt.ld q22.1 ((q22.2+15)+1)).bind fun FL=>
 (AV.ag .u64 FL).bind fun ji=>
 (Rt.ld q22.1 (((q22.2+15)+1)+1)).bind fun yM=>
 (AV.ag .u64 yM).bind fun jo=>
 (Rt.ld q22.1 ((((q22.2+15)+1)+1)+1)).bind fun yH=>
 (AV.ag .u64 yH).bind fun ot=>
 (acf [(.agg [(.i .u64 rZ),(.i .u64 ji),(.i .u64 jo),(.i .u64 ot)])] Rt).bind fun Lp=>
 (AV.aE 2 Lp.1).bind fun c32=>
 (AV.asAgg 2 (c32.getD 0 .u)).bind fun c33=>
 (AV.ag .u64 (c33.getD 0 .u)).bind fun wg=>
 (AV.ag .u64 (c33.getD 1 .u)).bind fun Vw=>
 (AV.asAgg 2 (c32.getD 1 .u)).bind fun c36=>
 (AV.ag .u64 (c36.getD 0 .u)).bind fun OX=>
 (AV.ag .u64 (c36.getD 1 .u)).bind fun GV=>
 let Od:=Lp.2.put r19.2.next (.cells true 177 [(.i .u64 0),(.i .u64 0)])
 let wS:=Od.put (r19.2.next+1) (.cells true 177 [(.i .u64 0),(.i .u64 0)])
 (wS.st (.n r19.2.next) 0 [(.i .u64 wg),(.i .u64 Vw)]).bind fun h41=>
 (h41.st (.n (r19.2.next+1)) 0 [(.i .u64 OX),(.i .u64 GV)]).bind fun GW=>
 Option.bind p0 fun Gn=>
 (GW.ld Gn.1 (Gn.2+15)).bind fun ZD=>
 (AV.ag .u64 ZD).bind fun Ov=>
 (GW.ld Gn.1 ((Gn.2+15)+1)).bind fun WJ=>
 (AV.ag .u64 WJ).bind fun Rx=>
 (GW.ld Gn.1 (((Gn.2+15)+1)+1)).bind fun ZE=>
 (AV.ag .u64 ZE).bind fun Ry=>
 (GW.ld Gn.1 ((((Gn.2+15)+1)+1)+1)).bind fun w50=>
 (AV.ag .u64 w50).bind fun WO=>
 Option.bind p0 fun XX=>
 (GW.ld XX.1 (XX.2+5)).bind fun w53=>
 (AV.aT w53).bind fun p54=>
 (GW.ld (.n (r19.2.next+1)) 0).bind fun Zz=>
 (AV.ag .u64 Zz).bind fun SG=>
 (GW.ld (.n (r19.2.next+1)) 1).bind fun Zp=>
 (AV.ag .u64 Zp).bind fun Uk=>
 (OV [(.p p54)] GW).bind fun Ra=>
 (AV.aT Ra.1).bind fun p60=>
 (bc (Ra.2.ld Gn.1 (Gn.2+15)) (some (.i .u64 Ov))).bind fun _=>
 (bc (Ra.2.ld Gn.1 ((Gn.2+15)+1)) (some (.i .u64 Rx))).bind fun _=>
 (bc (Ra.2.ld Gn.1 (((Gn.2+15)+1)+1)) (some (.i .u64 Ry))).bind fun _=>
 (bc (Ra.2.ld Gn.1 ((((Gn.2+15)+1)+1)+1)) (some (.i .u64 WO))).bind fun _=>
 (bc (Ra.2.ld (.n (r19.2.next+1)) 0) (some (.i .u64 SG))).bind fun _=>
 (bc (Ra.2.ld (.n (r19.2.next+1)) 1) (some (.i .u64 Uk))).bind fun _=>
 Option.bind p60 fun q61=>
 (Ra.2.ld q61.1 q61.2).bind fun w62=>
 (AV.aT w62).bind fun p63=>
 (O3 [(.p p63),(.agg [(.i .u64 SG),(.i .u64 Uk)])] Ra.2).bind fun r64=>
 (AV.asAgg 2 r64.1).bind fun c65=>
 (AV.ag .u64 (c65.getD 0 .u)).bind fun Zr=>
 (AV.ag .u64 (c65.getD 1 .u)).bind fun Z8=>
 (bc (r64.2.ld Gn.1 (Gn.2+15)) (some (.i .u64 Ov))).bind fun _=>
 (bc (r64.2.ld Gn.1 ((Gn.2+15)+1)) (some (.i .u64 Rx))).bind fun _=>
 (bc (r64.2.ld Gn.1 (((Gn.2+15)+1)+1)) (some (.i .u64 Ry))).bind fun _=>
 (bc (r64.2.ld Gn.1 ((((Gn.2+15)+1)+1)+1)) (some (.i .u64 WO))).bind fun _=>
 (acg [(.agg [(.i .u64 Ov),(.i .u64 Rx),(.i .u64 Ry),(.i .u64 WO)]),(.agg [(.i .u64 Zr),(.i .u64 Z8)])] r64.2).bind fun r68=>
 (AV.asAgg 4 r68.1).bind fun c69=>
 (AV.ag .u64 (c69.getD 0 .u)).bind fun n70=>
 (AV.ag .u64 (c69.getD 1 .u)).bind fun n71=>
 (AV.ag .u64 (c69.getD 2 .u)).bind fun n72=>
 (AV.ag .u64 (c69.getD 3 .u)).bind fun n73=>
 Option.bind p0 fun q74=>
 (r68.2.st q74.1 (q74.2+15) [(.i .u64 n70),(.i .u64 n71),(.i .u64 n72),(.i .u64 n73)]).bind fun h75=>
 some (J nv,h75)
 else none
def cm (F:Nat):Sm O:=m8 bR e9 eg eE gH (cM F) (cu F) cv
theorem jU:aa Tryz.prog 90:=Tryz.call90
theorem Ej (O5 acf OV O3 acg UH UI UJ:Sm O):run (O:=O) Tryz.prog [(116,O5),(117,acf),(83,OV),(119,O3),(118,acg),(158,UH),(160,UI),(189,UJ)] Tryz.f90 (.n .z (.n .z (.n .z (.n .z (.n (.d [] [0,1,2,3,4,5,6,7,8,13,9,10,11,12,14,15,16,17,18] [0,0,2,6,14,0,32,96,224,480,992,2016,4064,0,16352,32766,65535,131071,262143]) .z)))))=m8 O5 acf OV O3 acg UH UI UJ:=by kernel_rfl
theorem hU (F:Nat):ae RO Tryz.prog 90 (cm F):=
   have h:ae RO Tryz.prog 90 (m8 bR e9 eg eE gH (cM F) (cu F) cv):=(Ej bR e9 eg eE gH (cM F) (cu F) cv)▸aU (af ja (gO) <| af vW (tc) <| af iU (gq) <| af mS (kj) <| af zu (vY) <| af mZ (kq F) <| af lF (jH F) <| af lG (jI) <| aA) mixed Tryz.func90 (by kernel_rfl) _
   h
def kY (UH XZ:Sm O):Sm O:=fun xs h=>
 bif Nat.beq xs.length 4 then
 (AV.aT (xs.getD 0 .u)).bind fun p0=>
 (AV.ag .i64 (xs.getD 1 .u)).bind fun n1=>
 (AV.asAgg 2 (xs.getD 2 .u)).bind fun c2=>
 I6 c2 0 fun n3=>I6 c2 1 fun n4=>(AV.ag .i64 (xs.getD 3 .u)).bind fun n5=>
 let h6:=h.bump 4
 let h7:=h6.put h.next (.cells true 124 [(.p p0)])
 let h8:=h7.put (h.next+1) (.cells true 3 [J n1])
 let h9:=h8.put ((h.next+1)+1) (.cells true 45 [J n3,J n4])
 let gS:=h9.put (((h.next+1)+1)+1) (.cells true 3 [J n5])
 (gS.ld (.n h.next) 0).bind fun nm=>
 (AV.aT nm).bind fun p12=>
 (XZ [(.p p12),(.fn (some (.func 158,[],[(.p (some ((.n h.next),0))),(.p (some ((.n (h.next+1)),0))),(.p (some ((.n ((h.next+1)+1)),0))),(.p (some ((.n (((h.next+1)+1)+1)),0)))])))] gS).bind fun pZ=>
 (AV.ag .i64 pZ.1).bind fun fW=>
 some (J fW,pZ.2)
 else none
def jB (F:Nat):Sm O:=kY (cM F) (cm F)
theorem CY:aa Tryz.prog 120:=Tryz.call120
theorem CZ (UH XZ:Sm O):run (O:=O) Tryz.prog [(158,UH),(90,XZ)] Tryz.f120 (.n .z .z)=kY UH XZ:=by kernel_rfl
theorem zx (F:Nat):ae RO Tryz.prog 120 (jB F):=
   have h:ae RO Tryz.prog 120 (kY (cM F) (cm F)):=(CZ (cM F) (cm F))▸aU (af mZ (kq F) <| af jU (hU F) <| aA) mixed Tryz.func120 (by kernel_rfl) _
   h
def jV (UI XZ:Sm O):Sm O:=fun xs h=>
 bif Nat.beq xs.length 1 then
 (AV.aT (xs.getD 0 .u)).bind fun p0=>
 let h1:=h.bump 2
 let h2:=h1.put h.next (.cells true 124 [(.p p0)])
 let h3:=h2.put (h.next+1) (.cells true 3 [J 0])
 (h3.ld (.n h.next) 0).bind fun w4=>
 (AV.aT w4).bind fun p5=>
 (XZ [(.p p5),(.fn (some (.func 160,[],[(.p (some ((.n h.next),0))),(.p (some ((.n (h.next+1)),0)))])))] h3).bind fun r6=>
 (AV.ag .i64 r6.1).bind fun n7=>
 (r6.2.ld (.n (h.next+1)) 0).bind fun w8=>
 (AV.ag .i64 w8).bind fun n9=>
 (r6.2.st (.n (h.next+1)) 0 [J n9]).bind fun gS=>
 (gS.ld (.n (h.next+1)) 0).bind fun nm=>
 (AV.ag .i64 nm).bind fun dy=>
 some ((.aS [J dy,J n7]),gS)
 else none
def iB (F:Nat):Sm O:=jV (cu F) (cm F)
theorem Bl:aa Tryz.prog 121:=Tryz.call121
theorem Bm (UI XZ:Sm O):run (O:=O) Tryz.prog [(160,UI),(90,XZ)] Tryz.f121 (.n .z (.n .z .z))=jV UI XZ:=by kernel_rfl
theorem xP (F:Nat):ae RO Tryz.prog 121 (iB F):=
   have h:ae RO Tryz.prog 121 (jV (cu F) (cm F)):=(Bm (cu F) (cm F))▸aU (af lF (jH F) <| af jU (hU F) <| aA) mixed Tryz.func121 (by kernel_rfl) _
   h
def eM (agd NO agf:Sm O):Sm O:=fun xs h=>
 bif Nat.beq xs.length 2 then
 (AV.aT (xs.getD 0 .u)).bind fun p0=>
 (AV.asAgg 5 (xs.getD 1 .u)).bind fun c1=>
 I6 c1 0 fun n2=>I6 c1 1 fun n3=>I6 c1 2 fun n4=>I6 c1 3 fun n5=>I6 c1 4 fun n6=>let h7:=h.bump 2
 let h8:=h7.put h.next (.cells true 132 [J n2,J n3,J n4,J n5,J n6])
 let h9:=h8.put (h.next+1) (.cells true 41 [J 0,N])
 let gS:=h9.bump 1
 (gS.ld (.n h.next) 1).bind fun nm=>
 (AV.ag .i64 nm).bind fun dy=>
 (gS.ld (.n h.next) 2).bind fun tz=>
 (AV.ag .i64 tz).bind fun fW=>
 (gS.ld (.n h.next) 3).bind fun tx=>
 (AV.ag .i64 tx).bind fun jN=>
 (gS.ld (.n h.next) 4).bind fun vk=>
 (AV.ag .i64 vk).bind fun jX=>
 let Oc:=gS.put h9.next (.cells true 130 [J 0,J 0,J 0,J 0])
 (Oc.st (.n h9.next) 0 [J dy,J fW,J jN,J jX]).bind fun kQ=>
 (kQ.ld (.n h.next) 0).bind fun yF=>
 (AV.ag .i64 yF).bind fun fC=>
 (bif ((fC:Int) == 0) then
 Option.bind p0 fun KV=>
 (kQ.ld KV.1 KV.2).bind fun OJ=>
 (AV.aT OJ).bind fun p25=>
 (kQ.ld (.n h9.next) 0).bind fun Ru=>
 (AV.ag .i64 Ru).bind fun Ai=>
 (kQ.ld (.n h9.next) 1).bind fun Rv=>
 (AV.ag .i64 Rv).bind fun Lm=>
 (kQ.ld (.n h9.next) 2).bind fun w30=>
 (AV.ag .i64 w30).bind fun SH=>
 (kQ.ld (.n h9.next) 3).bind fun w32=>
 (AV.ag .i64 w32).bind fun RH=>
 (agd [(.p p25),J Ai,(.agg [J Lm,J SH]),J RH] kQ).bind fun r34=>
 (AV.ag .i64 r34.1).bind fun Vw=>
 (NO [J Vw,N] r34.2).bind fun r36=>
 (AV.asAgg 2 r36.1).bind fun c37=>
 I6 c37 0 fun GV=>Is c37 1 fun Zx=>(r36.2.st (.n (h.next+1)) 0 [J GV,L Zx]).bind fun wS=>
 (wS.ld (.n (h.next+1)) 0).bind fun ZC=>
 (AV.ag .i64 ZC).bind fun Oe=>
 (wS.ld (.n (h.next+1)) 1).bind fun ZF=>
 (AV.aG ZF).bind fun Vp=>
 some ((.aS [(.agg [J Oe,L Vp]),(.b true)]),wS)
 else (bif ((fC:Int) == 1) then
 Option.bind p0 fun q45=>
 (kQ.ld q45.1 q45.2).bind fun WJ=>
 (AV.aT WJ).bind fun p47=>
 (agf [(.p p47)] kQ).bind fun Vq=>
 (AV.aE 2 Vq.1).bind fun c49=>
 I6 c49 0 fun MG=>I6 c49 1 fun WO=>let h52:=Vq.2.bump 1
 let h53:=h52.put Vq.2.next (.cells true 3 [J MG])
 (NO [J WO,(.sl (.loc (.n Vq.2.next) 0 1) 1)] h53).bind fun r54=>
 (AV.asAgg 2 r54.1).bind fun c55=>
 I6 c55 0 fun SG=>Is c55 1 fun l57=>(r54.2.st (.n (h.next+1)) 0 [J SG,L l57]).bind fun h58=>
 (h58.ld (.n (h.next+1)) 0).bind fun w59=>
 (AV.ag .i64 w59).bind fun Zq=>
 (h58.ld (.n (h.next+1)) 1).bind fun w61=>
 (AV.aG w61).bind fun l62=>
 some ((.aS [(.agg [J Zq,L l62]),(.b true)]),h58)
 else (bif ((fC:Int) == 3) then
 none
 else (bif ((fC:Int) == 5) then
 none
 else (kQ.st (.n (h.next+1)) 0 [J 0,N]).bind fun QO=>
 (QO.ld (.n (h.next+1)) 0).bind fun w64=>
 (AV.ag .i64 w64).bind fun Vs=>
 (QO.ld (.n (h.next+1)) 1).bind fun w66=>
 (AV.aG w66).bind fun l67=>
 some ((.aS [(.agg [J Vs,L l67]),(.b false)]),QO)))))
 else none
def dI (F:Nat):Sm O:=eM (jB F) bY (iB F)
theorem rD:aa Tryz.prog 92:=Tryz.call92
theorem rE (agd NO agf:Sm O):run (O:=O) Tryz.prog [(120,agd),(39,NO),(121,agf)] Tryz.f92 (.n .z (.n .z (.n (.n .z (.n (.n .z (.n (.n (.d [] [0,1,2,3,4,5,6,7,8,9,10,11,12,13,14,15,16] [0,1,3,7,0,16,0,64,0,256,960,0,2048,8191,16383,32767,65535]) .z) (.n .z (.n (.n .z .z) (.n .z (.n .x (.n .z (.n .x .z)))))))) .z)) .z)))=eM agd NO agf:=by kernel_rfl
theorem pI (F:Nat):ae RO Tryz.prog 92 (dI F):=
   have h:ae RO Tryz.prog 92 (eM (jB F) bY (iB F)):=(rE (jB F) bY (iB F))▸aU (af CY (zx F) <| af fR (eB) <| af Bl (xP F) <| aA) mixed Tryz.func92 (by kernel_rfl) _
   h
def ku (NO:Sm O):Sm O:=fun xs h=>
 bif Nat.beq xs.length 2 then
 (AV.aT (xs.getD 0 .u)).bind fun p0=>
 (AV.asAgg 5 (xs.getD 1 .u)).bind fun c1=>
 I6 c1 0 fun n2=>I6 c1 1 fun n3=>I6 c1 2 fun n4=>I6 c1 3 fun n5=>I6 c1 4 fun n6=>let h7:=h.bump 2
 let h8:=h7.put h.next (.cells true 132 [J n2,J n3,J n4,J n5,J n6])
 let h9:=h8.put (h.next+1) (.cells true 41 [J 0,N])
 let gS:=h9.bump 1
 (gS.ld (.n h.next) 1).bind fun nm=>
 (AV.ag .i64 nm).bind fun dy=>
 (gS.ld (.n h.next) 2).bind fun tz=>
 (AV.ag .i64 tz).bind fun fW=>
 (gS.ld (.n h.next) 3).bind fun tx=>
 (AV.ag .i64 tx).bind fun jN=>
 (gS.ld (.n h.next) 4).bind fun vk=>
 (AV.ag .i64 vk).bind fun jX=>
 let Oc:=gS.put h9.next (.cells true 130 [J 0,J 0,J 0,J 0])
 (Oc.st (.n h9.next) 0 [J dy,J fW,J jN,J jX]).bind fun kQ=>
 (kQ.ld (.n h.next) 0).bind fun yF=>
 (AV.ag .i64 yF).bind fun fC=>
 (bif ((fC:Int) == 2) then
 none
 else (bif ((fC:Int) == 4) then
 none
 else (bif ((fC:Int) == 6) then
 none
 else (bif ((fC:Int) == 7) then
 none
 else (bif ((fC:Int) == 8) then
 none
 else (bif ((fC:Int) == 9) then
 none
 else (bif ((fC:Int) == 10) then
 none
 else (kQ.st (.n (h.next+1)) 0 [J 0,N]).bind fun tW=>
 (tW.ld (.n (h.next+1)) 0).bind fun OJ=>
 (AV.ag .i64 OJ).bind fun wj=>
 (tW.ld (.n (h.next+1)) 1).bind fun Ru=>
 (AV.aG Ru).bind fun l27=>
 some ((.aS [(.agg [J wj,L l27]),(.b false)]),tW))))))))
 else none
def dS:Sm O:=ku bY
theorem td:aa Tryz.prog 93:=Tryz.call93
theorem te (NO:Sm O):run (O:=O) Tryz.prog [(39,NO)] Tryz.f93 (.n .z (.n .z (.n (.n .z (.n (.n .z (.n .x (.n .z (.n .x (.n .z (.n .x (.n .z (.n .x (.n .z (.n .x (.n .z (.n .x (.n .z (.n .x .z)))))))))))))) .z)) .z)))=ku NO:=by kernel_rfl
theorem qk:ae RO Tryz.prog 93 dS:=bt (te _) (af fR eB <| aA) Tryz.func93 (by kernel_rfl)
def jW (UJ XZ:Sm O):Sm O:=fun xs h=>
 bif Nat.beq xs.length 2 then
 (AV.aT (xs.getD 0 .u)).bind fun p0=>
 (AV.ag .i64 (xs.getD 1 .u)).bind fun n1=>
 let h2:=h.bump 3
 let h3:=h2.put h.next (.cells true 124 [(.p p0)])
 let h4:=h3.put (h.next+1) (.cells true 3 [J n1])
 let h5:=h4.put ((h.next+1)+1) (.cells true 47 [J 0,J 0,J 0,J 0,(.b false)])
 (h5.ld (.n h.next) 0).bind fun w6=>
 (AV.aT w6).bind fun p7=>
 (XZ [(.p p7),(.fn (some (.func 189,[],[(.p (some ((.n h.next),0))),(.p (some ((.n (h.next+1)),0))),(.p (some ((.n ((h.next+1)+1)),0)))])))] h5).bind fun r8=>
 (AV.ag .i64 r8.1).bind fun n9=>
 (r8.2.ld (.n ((h.next+1)+1)) 0).bind fun wP=>
 (AV.ag .i64 wP).bind fun dZ=>
 (r8.2.ld (.n ((h.next+1)+1)) 1).bind fun tw=>
 (AV.ag .i64 tw).bind fun fg=>
 (r8.2.ld (.n ((h.next+1)+1)) 2).bind fun ou=>
 (AV.ag .i64 ou).bind fun gd=>
 (r8.2.ld (.n ((h.next+1)+1)) 3).bind fun vl=>
 (AV.ag .i64 vl).bind fun iO=>
 (r8.2.ld (.n ((h.next+1)+1)) 4).bind fun Ce=>
 (AV.aV Ce).bind fun b19=>
 (r8.2.st (.n ((h.next+1)+1)) 0 [J dZ,J fg,J gd,J iO,(.b b19)]).bind fun kQ=>
 (kQ.ld (.n ((h.next+1)+1)) 0).bind fun yF=>
 (AV.ag .i64 yF).bind fun fC=>
 (kQ.ld (.n ((h.next+1)+1)) 1).bind fun I1=>
 (AV.ag .i64 I1).bind fun rZ=>
 (kQ.ld (.n ((h.next+1)+1)) 2).bind fun FL=>
 (AV.ag .i64 FL).bind fun ji=>
 (kQ.ld (.n ((h.next+1)+1)) 3).bind fun yM=>
 (AV.ag .i64 yM).bind fun jo=>
 (kQ.ld (.n ((h.next+1)+1)) 4).bind fun yH=>
 (AV.aV yH).bind fun b30=>
 some ((.aS [(.agg [J fC,J rZ,J ji,J jo,(.b b30)]),J n9]),kQ)
 else none
def iC (F:Nat):Sm O:=jW cv (cm F)
theorem Bn:aa Tryz.prog 136:=Tryz.call136
theorem Bo (UJ XZ:Sm O):run (O:=O) Tryz.prog [(189,UJ),(90,XZ)] Tryz.f136 (.n .z (.n .z .z))=jW UJ XZ:=by kernel_rfl
theorem xQ (F:Nat):ae RO Tryz.prog 136 (iC F):=
   have h:ae RO Tryz.prog 136 (jW cv (cm F)):=(Bo cv (cm F))▸aU (af lG (jI) <| af jU (hU F) <| aA) mixed Tryz.func136 (by kernel_rfl) _
   h
def ft (NO agh:Sm O):Sm O:=fun xs h=>
 bif Nat.beq xs.length 2 then
 (AV.aT (xs.getD 0 .u)).bind fun p0=>
 (AV.asAgg 5 (xs.getD 1 .u)).bind fun c1=>
 I6 c1 0 fun n2=>I6 c1 1 fun n3=>I6 c1 2 fun n4=>I6 c1 3 fun n5=>I6 c1 4 fun n6=>let h7:=h.bump 2
 let h8:=h7.put h.next (.cells true 132 [J n2,J n3,J n4,J n5,J n6])
 let h9:=h8.put (h.next+1) (.cells true 41 [J 0,N])
 let gS:=h9.bump 1
 (gS.ld (.n h.next) 1).bind fun nm=>
 (AV.ag .i64 nm).bind fun dy=>
 (gS.ld (.n h.next) 2).bind fun tz=>
 (AV.ag .i64 tz).bind fun fW=>
 (gS.ld (.n h.next) 3).bind fun tx=>
 (AV.ag .i64 tx).bind fun jN=>
 (gS.ld (.n h.next) 4).bind fun vk=>
 (AV.ag .i64 vk).bind fun jX=>
 let Oc:=gS.put h9.next (.cells true 130 [J 0,J 0,J 0,J 0])
 (Oc.st (.n h9.next) 0 [J dy,J fW,J jN,J jX]).bind fun kQ=>
 (kQ.ld (.n h.next) 0).bind fun yF=>
 (AV.ag .i64 yF).bind fun fC=>
 (bif ((fC:Int) == 11) then
 none
 else (bif ((fC:Int) == 12) then
 none
 else (bif ((fC:Int) == 13) then
 none
 else (bif ((fC:Int) == 14) then
 none
 else (bif ((fC:Int) == 15) then
 let tW:=kQ.bump 1
 Option.bind p0 fun wR=>
 (tW.ld wR.1 wR.2).bind fun FL=>
 (AV.aT FL).bind fun p26=>
 (tW.ld (.n h9.next) 0).bind fun yM=>
 (AV.ag .i64 yM).bind fun jo=>
 (agh [(.p p26),J jo] tW).bind fun JT=>
 (AV.aE 2 JT.1).bind fun c30=>
 (AV.asAgg 5 (c30.getD 0 .u)).bind fun c31=>
 I6 c31 0 fun lJ=>I6 c31 1 fun RH=>I6 c31 2 fun wg=>I6 c31 3 fun Vw=>(AV.aV (c31.getD 4 .u)).bind fun b36=>
 I6 c30 1 fun OX=>let h38:=JT.2.put kQ.next (.cells true 47 [J 0,J 0,J 0,J 0,(.b false)])
 (h38.st (.n kQ.next) 0 [J lJ,J RH,J wg,J Vw,(.b b36)]).bind fun Od=>
 let wS:=Od.bump 1
 (wS.ld (.n kQ.next) 0).bind fun ZC=>
 (AV.ag .i64 ZC).bind fun Oe=>
 (wS.ld (.n kQ.next) 1).bind fun ZF=>
 (AV.ag .i64 ZF).bind fun SI=>
 (wS.ld (.n kQ.next) 2).bind fun w45=>
 (AV.ag .i64 w45).bind fun Ue=>
 let h47:=wS.put Od.next (.cells true 3 [J Oe,J SI,J Ue])
 (NO [J OX,(.sl (.loc (.n Od.next) 0 1) 3)] h47).bind fun Vq=>
 (AV.asAgg 2 Vq.1).bind fun c49=>
 I6 c49 0 fun MG=>Is c49 1 fun l51=>(Vq.2.st (.n (h.next+1)) 0 [J MG,L l51]).bind fun h52=>
 (h52.ld (.n (h.next+1)) 0).bind fun w53=>
 (AV.ag .i64 w53).bind fun SF=>
 (h52.ld (.n (h.next+1)) 1).bind fun Zz=>
 (AV.aG Zz).bind fun l56=>
 some ((.aS [(.agg [J SF,L l56]),(.b true)]),h52)
 else none)))))
 else none
def dT (F:Nat):Sm O:=ft bY (iC F)
theorem tf:aa Tryz.prog 94:=Tryz.call94
theorem tg (NO agh:Sm O):run (O:=O) Tryz.prog [(39,NO),(136,agh)] Tryz.f94 (.n .z (.n .z (.n (.n .z (.n (.n .z (.n .x (.n .z (.n .x (.n .z (.n .x (.n .z (.n .x (.n .z (.n (.n (.d [] [0,1,2,3,4,5,6,7,8,9,10,11,12] [0,1,3,7,0,16,63,127,255,255,0,1535,4095]) .z) .x)))))))))) .z)) .z)))=ft NO agh:=by kernel_rfl
theorem ql (F:Nat):ae RO Tryz.prog 94 (dT F):=
   have h:ae RO Tryz.prog 94 (ft bY (iC F)):=(tg bY (iC F))▸aU (af fR (eB) <| af Bn (xQ F) <| aA) mixed Tryz.func94 (by kernel_rfl) _
   h
def zy (h9:AH O) (h:AH O) (k92:Sm O) (k93:Sm O) (k94:Sm O):List AV × AH O → Option ((List AV × AH O) ⊕ ((List AV × AH O) ⊕ (AV × AH O))):=(fun fa=>
 (AV.ag .i64 (fa.1.getD 0 .u)).bind fun fg=>
 (bif (decide (fg<3)) then
 (bif ((decide ((0:Int) ≤ fg)) && (decide (fg<3))) then
 (fa.2.ld (.n h9.next) (0+(fg.toNat*1))).bind fun ou=>
 (AV.Qt ou).bind fun f15=>
 let zI:=fa.2.bump 1
 (zI.ld (.n h.next) 0).bind fun vk=>
 (AV.ag .i64 vk).bind fun jX=>
 (zI.ld (.n h.next) 1).bind fun I5=>
 (AV.ag .i64 I5).bind fun nv=>
 (zI.ld (.n h.next) 2).bind fun yF=>
 (AV.ag .i64 yF).bind fun fC=>
 (zI.ld (.n h.next) 3).bind fun I1=>
 (AV.ag .i64 I1).bind fun rZ=>
 (zI.ld (.n h.next) 4).bind fun FL=>
 (AV.ag .i64 FL).bind fun ji=>
 (JA [(92,k92),(93,k93),(94,k94)] f15 [(.agg [J jX,J nv,J fC,J rZ,J ji])] zI).bind fun rq=>
 (AV.aE 2 rq.1).bind fun c28=>
 (AV.asAgg 2 (c28.getD 0 .u)).bind fun c29=>
 I6 c29 0 fun ot=>Is c29 1 fun l31=>(AV.aV (c28.getD 1 .u)).bind fun b32=>
 let h33:=rq.2.put fa.2.next (.cells true 41 [J 0,N])
 (h33.st (.n fa.2.next) 0 [J ot,L l31]).bind fun OC=>
 (bif b32 then
 (OC.ld (.n fa.2.next) 0).bind fun Rw=>
 (AV.ag .i64 Rw).bind fun GU=>
 (OC.ld (.n fa.2.next) 1).bind fun M1=>
 (AV.aG M1).bind fun l38=>
 (OC.st (.n (h.next+1)) 0 [J GU,L l38]).bind fun Od=>
 (((Od.ld (.n (h.next+1)) 0).bind fun WR=>
 (AV.ag .i64 WR).bind fun Ou=>
 (Od.ld (.n (h.next+1)) 1).bind fun WS=>
 (AV.aG WS).bind fun l43=>
 some ((.agg [J Ou,L l43]),Od):Option (AV × AH O)).map fun r=>Sum.inr (Sum.inr r))
 else some (Sum.inl ([(.i .i64 (IntKind.i64.wrap (fg+1)))],OC)))
 else none)
 else none))
def hX (k92 k93 k94:Sm O):Sm O:=fun xs h=>
 bif Nat.beq xs.length 2 then
 (AV.aT (xs.getD 0 .u)).bind fun p0=>
 (AV.asAgg 5 (xs.getD 1 .u)).bind fun c1=>
 I6 c1 0 fun n2=>I6 c1 1 fun n3=>I6 c1 2 fun n4=>I6 c1 3 fun n5=>I6 c1 4 fun n6=>let h7:=h.bump 2
 let h8:=h7.put h.next (.cells true 132 [J n2,J n3,J n4,J n5,J n6])
 let h9:=h8.put (h.next+1) (.cells true 41 [J 0,N])
 let gS:=h9.bump 1
 let iM:=gS.put h9.next (.cells true 196 [(.fn (some (.func 92,[(.p p0)],[]))),(.fn (some (.func 93,[(.p p0)],[]))),(.fn (some (.func 94,[(.p p0)],[])))])
 bK (S:=List AV × AH O) (R:=(AV × AH O)) (aQ (S:=List AV × AH O) (T:=(List AV × AH O) ⊕ (AV × AH O)) (zy h9 h k92 k93 k94) ([J 0],iM)) fun Ua=>
 none
 else none
def fJ (F:Nat):Sm O:=hX (dI F) dS (dT F)
theorem xR:aa Tryz.prog 67:=Tryz.call67
theorem xS (k92 k93 k94:Sm O):run (O:=O) Tryz.prog [(92,k92),(93,k93),(94,k94)] Tryz.f67 (.n .z (.n (.n .z (.n (.lp true 1000000 [(17,.one (.i .i64))] [] (.n .z (.n (.n .z .x) (.n (.n (.n .z (.n .z (.n .z (.n .z .z)))) .z) .z)))) .z)) (.n (.n .z (.n .x .x)) .z)))=hX k92 k93 k94:=by kernel_rfl
theorem tI (F:Nat):ae RO Tryz.prog 67 (fJ F):=
   have h:ae RO Tryz.prog 67 (hX (dI F) dS (dT F)):=(xS (dI F) dS (dT F))▸aU (af rD (pI F) <| af td (qk) <| af tf (ql F) <| aA) mixed Tryz.func67 (by kernel_rfl) _
   h
def hY (k65 NO k67:Sm O):Sm O:=fun xs h=>
 bif Nat.beq xs.length 2 then
 (AV.aT (xs.getD 0 .u)).bind fun p0=>
 (AV.aG (xs.getD 1 .u)).bind fun l1=>
 let h2:=h.bump 1
 let h3:=h2.put h.next (.cells true 41 [J 0,N])
 let h4:=h3.bump 1
 (k65 [L l1] h4).bind fun r5=>
 (AV.aE 2 r5.1).bind fun c6=>
 (AV.asAgg 5 (c6.getD 0 .u)).bind fun c7=>
 I6 c7 0 fun n8=>I6 c7 1 fun n9=>I6 c7 2 fun cQ=>I6 c7 3 fun dZ=>I6 c7 4 fun dy=>I6 c6 1 fun fg=>let tu:=r5.2.put h3.next (.cells true 132 [J 0,J 0,J 0,J 0,J 0])
 (tu.st (.n h3.next) 0 [J n8,J n9,J cQ,J dZ,J dy]).bind fun oY=>
 (bif ((fg:Int) != 0) then
 none
 else (oY.ld (.n h3.next) 0).bind fun vl=>
 (AV.ag .i64 vl).bind fun iO=>
 (oY.ld (.n h3.next) 1).bind fun Ce=>
 (AV.ag .i64 Ce).bind fun kN=>
 (oY.ld (.n h3.next) 2).bind fun DL=>
 (AV.ag .i64 DL).bind fun vr=>
 (oY.ld (.n h3.next) 3).bind fun IZ=>
 (AV.ag .i64 IZ).bind fun qo=>
 (oY.ld (.n h3.next) 4).bind fun OJ=>
 (AV.ag .i64 OJ).bind fun wj=>
 (k67 [(.p p0),(.agg [J iO,J kN,J vr,J qo,J wj])] oY).bind fun Ll=>
 (AV.asAgg 2 Ll.1).bind fun c27=>
 I6 c27 0 fun jo=>Is c27 1 fun l29=>(Ll.2.st (.n h.next) 0 [J jo,L l29]).bind fun h30=>
 (h30.ld (.n h.next) 0).bind fun Cl=>
 (AV.ag .i64 Cl).bind fun lJ=>
 (h30.ld (.n h.next) 1).bind fun FE=>
 (AV.aG FE).bind fun l34=>
 some ((.agg [J lJ,L l34]),h30))
 else none
def fK (F:Nat):Sm O:=hY rz bY (fJ F)
theorem xT:aa Tryz.prog 40:=Tryz.call40
theorem xU (k65 NO k67:Sm O):run (O:=O) Tryz.prog [(65,k65),(39,NO),(67,k67)] Tryz.f40 (.n .z (.n .z (.n (.n .z (.n .x .z)) .z)))=hY k65 NO k67:=by kernel_rfl
theorem tJ (F:Nat):ae RO Tryz.prog 40 (fK F):=
   have h:ae RO Tryz.prog 40 (hY rz bY (fJ F)):=(xU rz bY (fJ F))▸aU (af Jc (FR) <| af fR (eB) <| af xR (tI F) <| aA) mixed Tryz.func40 (by kernel_rfl) _
   h
def NP (l1:SA × Nat) (k40:Sm O) (p4:Option (jJ × Nat)):List AV × AH O → Option ((List AV × AH O) ⊕ (List AV × AH O)):=(fun fa=>
 (AV.aG (fa.1.getD 0 .u)).bind fun P7=>
 (AV.ag .i64 (fa.1.getD 1 .u)).bind fun fW=>
 (bif (decide (fW<(l1.2:Int))) then
 (bif ((decide ((0:Int) ≤ fW)) && (decide (fW<(l1.2:Int)))) then
 (SA.ref l1.1).bind fun q15=>
 (fa.2.ld q15.1 (q15.2+(fW.toNat*1))).bind fun vl=>
 (AV.aG vl).bind fun P9=>
 let qp:=fa.2.bump 2
 (k40 [(.p p4),L P9] qp).bind fun r19=>
 (AV.asAgg 2 r19.1).bind fun c20=>
 I6 c20 0 fun vr=>Is c20 1 fun XN=>let tW:=r19.2.put fa.2.next (.cells true 41 [J vr,L XN])
 (tW.bC (.loc (.n fa.2.next) 0 2) 1 2).bind fun abW=>
 (bif (Nat.ble ((P7.2+1)*33) 35184372088832) then
 (tW.bP (fa.2.next+1) 41 2 P7.1 P7.2 1 abW).bind fun Dz=>
 (AV.aG Dz.1).bind fun T9=>
 some (Sum.inl ([L T9,(.i .i64 (IntKind.i64.wrap (fW+1)))],Dz.2))
 else none)
 else none)
 else some (Sum.inr ([L P7],fa.2))))
def vZ (k38 NO k40:Sm O):Sm O:=fun xs h=>
 bif Nat.beq xs.length 2 then
 (AV.aG (xs.getD 0 .u)).bind fun l0=>
 (AV.aG (xs.getD 1 .u)).bind fun l1=>
 (k38 [L l0] h).bind fun r2=>
 (AV.aE 2 r2.1).bind fun c3=>
 (AV.aT (c3.getD 0 .u)).bind fun p4=>
 I6 c3 1 fun n5=>(bif ((n5:Int) != 0) then
 none
 else let h6:=r2.2.bump 1
 (NO [J 0,L l0] h6).bind fun r7=>
 (AV.asAgg 2 r7.1).bind fun c8=>
 I6 c8 0 fun n9=>Is c8 1 fun l10=>let iM:=r7.2.put r2.2.next (.cells true 41 [J n9,L l10])
 (aQ (S:=List AV × AH O) (T:=List AV × AH O) (NP l1 k40 p4) ([(.sl (.loc (.n r2.2.next) 0 2) 1),J 0],iM)).bind fun rq=>
 (AV.aG (rq.1.getD 0 .u)).bind fun Re=>
 some (L Re,rq.2))
 else none
def uV (F:Nat):Sm O:=vZ uc bY (fK F)
theorem Lh:aa Tryz.prog 12:=Tryz.call12
theorem Li (k38 NO k40:Sm O):run (O:=O) Tryz.prog [(38,k38),(39,NO),(40,k40)] Tryz.f12 (.n .z (.n .z (.n (.n .z (.n .x .z)) (.n .z (.n (.n .z (.n (.lp false 0 [(7,.one .sl),(25,.one (.i .i64))] [(7,.one .sl)] (.n .z (.n .z (.n (.n .z .z) .z)))) .z)) .z)))))=vZ k38 NO k40:=by kernel_rfl
theorem HM (F:Nat):ae RO Tryz.prog 12 (uV F):=
   have h:ae RO Tryz.prog 12 (vZ uc bY (fK F)):=(Li uc bY (fK F))▸aU (af K4 (Hn) <| af fR (eB) <| af xT (tJ F) <| aA) mixed Tryz.func12 (by kernel_rfl) _
   h
def Ek (h:AH O):List AV × AH O → Option ((List AV × AH O) ⊕ (List AV × AH O)):=(fun r19=>
 (AV.ag .i64 (r19.1.getD 0 .u)).bind fun nv=>
 (r19.2.ld (.n h.next) 1).bind fun yF=>
 (AV.aG yF).bind fun XN=>
 (bif (decide (nv<(XN.2:Int))) then
 (r19.2.ld (.n h.next) 1).bind fun I1=>
 (AV.aG I1).bind fun l24=>
 (bif ((decide ((0:Int) ≤ nv)) && (decide (nv<(l24.2:Int)))) then
 (SA.ref l24.1).bind fun q25=>
 (r19.2.ld q25.1 (q25.2+(nv.toNat*1))).bind fun Ru=>
 (AV.ag .i64 Ru).bind fun Ai=>
 (r19.2.ld (.n (h.next+1)) 1).bind fun Rv=>
 (AV.aG Rv).bind fun l29=>
 (bif ((decide ((0:Int) ≤ nv)) && (decide (nv<(l29.2:Int)))) then
 (SA.ref l29.1).bind fun MF=>
 (r19.2.ld MF.1 (MF.2+(nv.toNat*1))).bind fun Cl=>
 (AV.ag .i64 Cl).bind fun lJ=>
 (bif ((Ai:Int) != lJ) then
 none
 else some (Sum.inl ([(.i .i64 (IntKind.i64.wrap (nv+1)))],r19.2)))
 else none)
 else none)
 else some (Sum.inr ([],r19.2))))
def th:Sm O:=fun xs h=>
 bif Nat.beq xs.length 2 then
 (AV.asAgg 2 (xs.getD 0 .u)).bind fun c0=>
 I6 c0 0 fun n1=>Is c0 1 fun l2=>(AV.asAgg 2 (xs.getD 1 .u)).bind fun c3=>
 I6 c3 0 fun n4=>Is c3 1 fun l5=>let h6:=h.bump 2
 let h7:=h6.put h.next (.cells true 41 [J n1,L l2])
 let h8:=h7.put (h.next+1) (.cells true 41 [J n4,L l5])
 (h8.ld (.n h.next) 0).bind fun w9=>
 (AV.ag .i64 w9).bind fun cQ=>
 (h8.ld (.n (h.next+1)) 0).bind fun nm=>
 (AV.ag .i64 nm).bind fun dy=>
 ((bif (((cQ:Int) != dy) == false) then
 (h8.ld (.n h.next) 1).bind fun tz=>
 (AV.aG tz).bind fun H3=>
 (h8.ld (.n (h.next+1)) 1).bind fun tx=>
 (AV.aG tx).bind fun l16=>
 some ([(.b (((H3.2:Int):Int) != (l16.2:Int)))],h8)
 else some ([(.b true)],h8)):Option (List AV × AH O)).bind fun H6=>
 (AV.aV (H6.1.getD 0 .u)).bind fun b18=>
 (bif b18 then
 none
 else (aQ (S:=List AV × AH O) (T:=List AV × AH O) (Ek h) ([J 0],H6.2)).bind fun Br=>
 some ((.b true),Br.2))
 else none
def jC:Sm O:=th
theorem C0:aa Tryz.prog 13:=Tryz.call13
theorem Da:run (O:=O) Tryz.prog [] Tryz.f13 (.n .z (.n (.n (.g [(5,7,[(19,.one .b)])]) (.n .x .z)) (.n (.n .z (.n (.lp false 0 [(5,.one (.i .i64))] [] (.n (.n .z .z) (.n (.n (.n (.d [] [0,1,2,3,4,5,6,7,8,9,10] [0,1,0,7,15,0,32,0,224,480,1023]) (.n .x .z)) .z) .z))) .z)) .z)))=th:=by kernel_rfl
theorem zA:ae RO Tryz.prog 13 jC:=bt Da (aA) Tryz.func13 (by kernel_rfl)
def m9 (k12 k13:Sm O):Sm O:=fun xs h=>
 bif Nat.beq xs.length 0 then
 let h0:=h.bump 5
 let h1:=h0.put h.next (.cells true 3 [J 16,J 0,J 8,J 1,J 0])
 let h2:=h1.put (h.next+1) (.cells true 3 [J 1])
 let h3:=h2.put ((h.next+1)+1) (.cells true 3 [J 0,J 0,J 1,J 2,J 0])
 let h4:=h3.put (((h.next+1)+1)+1) (.cells true 3 [J 15,J 0])
 let h5:=h4.put ((((h.next+1)+1)+1)+1) (.cells true 23 [(.sl (.loc (.n (h.next+1)) 0 1) 1),(.sl (.loc (.n ((h.next+1)+1)) 0 1) 5),(.sl (.loc (.n (((h.next+1)+1)+1)) 0 1) 2)])
 (k12 [(.sl (.loc (.n h.next) 0 1) 5),(.sl (.loc (.n ((((h.next+1)+1)+1)+1)) 0 1) 3)] h5).bind fun r6=>
 (AV.aG r6.1).bind fun l7=>
 let h8:=r6.2.bump 2
 ((bif ((((l7.2:Int):Int) == 4) == true) then
 (bif (decide ((1:Int)<(l7.2:Int))) then
 (SA.ref l7.1).bind fun q9=>
 (h8.ld q9.1 (q9.2+2)).bind fun wP=>
 (AV.ag .i64 wP).bind fun dZ=>
 (h8.ld q9.1 ((q9.2+2)+1)).bind fun tw=>
 (AV.aG tw).bind fun P7=>
 let tu:=h8.put r6.2.next (.cells true 3 [J 0])
 (k13 [(.agg [J dZ,L P7]),(.agg [J 0,(.sl (.loc (.n r6.2.next) 0 1) 1)])] tu).bind fun ij=>
 (AV.aV ij.1).bind fun WN=>
 some ([(.b WN)],ij.2)
 else none)
 else some ([(.b false)],h8)):Option (List AV × AH O)).bind fun H6=>
 (AV.aV (H6.1.getD 0 .u)).bind fun b18=>
 ((bif (b18 == true) then
 (bif (decide ((3:Int)<(l7.2:Int))) then
 (SA.ref l7.1).bind fun Rc=>
 (H6.2.ld Rc.1 (Rc.2+6)).bind fun DL=>
 (AV.ag .i64 DL).bind fun vr=>
 (H6.2.ld Rc.1 ((Rc.2+6)+1)).bind fun IZ=>
 (AV.aG IZ).bind fun l23=>
 let P':=H6.2.put (r6.2.next+1) (.cells true 3 [J 1,J 2,J 0])
 (k13 [(.agg [J vr,L l23]),(.agg [J 0,(.sl (.loc (.n (r6.2.next+1)) 0 1) 3)])] P').bind fun Dz=>
 (AV.aV Dz.1).bind fun b26=>
 some ([(.b b26)],Dz.2)
 else none)
 else some ([(.b false)],H6.2)):Option (List AV × AH O)).bind fun rq=>
 (AV.aV (rq.1.getD 0 .u)).bind fun b28=>
 some ((.b b28),rq.2)
 else none
def eP (F:Nat):Sm O:=m9 (uV F) jC
theorem El:aa Tryz.prog 4:=Tryz.call4
theorem Em (k12 k13:Sm O):run (O:=O) Tryz.prog [(12,k12),(13,k13)] Tryz.f4 (.n .z (.n .z (.n (.g [(3,6,[(18,.one .b)]),(11,6,[(26,.one .b)])]) .z)))=m9 k12 k13:=by kernel_rfl
theorem Bp (F:Nat):ae RO Tryz.prog 4 (eP F):=
   have h:ae RO Tryz.prog 4 (m9 (uV F) jC):=(Em (uV F) jC)▸aU (af Lh (HM F) <| af C0 (zA) <| aA) mixed Tryz.func4 (by kernel_rfl) _
   h
def dU (k4 k5 k6 k7 k8 k9 k10 k11:Sm O):Sm O:=fun xs h=>
 bif Nat.beq xs.length 1 then
 (AV.asAgg 3 (xs.getD 0 .u)).bind fun c0=>
 Is c0 0 fun l1=>Is c0 1 fun l2=>Is c0 2 fun l3=>let h4:=h.bump 1
 let h5:=h4.put h.next (.cells true 25 [L l1,L l2,L l3])
 (k4 [] h5).bind fun r6=>
 (AV.aV r6.1).bind fun b7=>
 ((bif ((!b7) == false) then
 (k5 [(.agg [N,N,N])] r6.2).bind fun r8=>
 (AV.aV r8.1).bind fun b9=>
 some ([(.b (!b9))],r8.2)
 else some ([(.b true)],r6.2)):Option (List AV × AH O)).bind fun dw=>
 (AV.aV (dw.1.getD 0 .u)).bind fun WA=>
 ((bif (WA == false) then
 (k6 [(.agg [N,N,N])] dw.2).bind fun fa=>
 (AV.dV fa.1).bind fun s13=>
 let c14:Bool:=(!(s13 == ([114,111,111,116,115,10,119,101,97,107,10]:List UInt8)))
 some ([(.b c14)],fa.2)
 else some ([(.b true)],dw.2)):Option (List AV × AH O)).bind fun ij=>
 (AV.aV (ij.1.getD 0 .u)).bind fun WN=>
 (bif WN then
 some ((.b false),ij.2)
 else (ij.2.ld (.n h.next) 0).bind fun vk=>
 (AV.aG vk).bind fun l18=>
 (ij.2.ld (.n h.next) 1).bind fun I5=>
 (AV.aG I5).bind fun XR=>
 (ij.2.ld (.n h.next) 2).bind fun yF=>
 (AV.aG yF).bind fun XN=>
 (k7 [(.agg [L l18,L XR,L XN])] ij.2).bind fun zG=>
 (AV.aV zG.1).bind fun b24=>
 (bif (!b24) then
 some ((.b true),zG.2)
 else (zG.2.ld (.n h.next) 0).bind fun FL=>
 (AV.aG FL).bind fun T9=>
 (zG.2.ld (.n h.next) 1).bind fun yM=>
 (AV.aG yM).bind fun Re=>
 (zG.2.ld (.n h.next) 2).bind fun yH=>
 (AV.aG yH).bind fun l30=>
 (zG.2.ld (.n h.next) 0).bind fun Cl=>
 (AV.aG Cl).bind fun l32=>
 (zG.2.ld (.n h.next) 1).bind fun FE=>
 (AV.aG FE).bind fun l34=>
 (zG.2.ld (.n h.next) 2).bind fun Rw=>
 (AV.aG Rw).bind fun l36=>
 (k6 [(.agg [L T9,L Re,L l30])] zG.2).bind fun r37=>
 (AV.dV r37.1).bind fun s38=>
 (bc (r37.2.ld (.n h.next) 0) (some (.sl l32.1 l32.2))).bind fun _=>
 (bc (r37.2.ld (.n h.next) 1) (some (.sl l34.1 l34.2))).bind fun _=>
 (bc (r37.2.ld (.n h.next) 2) (some (.sl l36.1 l36.2))).bind fun _=>
 (k8 [(.agg [L l32,L l34,L l36])] r37.2).bind fun WG=>
 (AV.aG WG.1).bind fun P8=>
 (WG.2.ld (.n h.next) 0).bind fun ZC=>
 (AV.aG ZC).bind fun l42=>
 (WG.2.ld (.n h.next) 1).bind fun ZF=>
 (AV.aG ZF).bind fun Vp=>
 (WG.2.ld (.n h.next) 2).bind fun w45=>
 (AV.aG w45).bind fun l46=>
 (k5 [(.agg [L l42,L Vp,L l46])] WG.2).bind fun WU=>
 (AV.aV WU.1).bind fun b48=>
 (bif (!b48) then
 ((bif ((s38 == ([]:List UInt8)) == true) then
 some ([(.b (((P8.2:Int):Int) == 0))],WU.2)
 else some ([(.b false)],WU.2)):Option (List AV × AH O)).bind fun r49=>
 (AV.aV (r49.1.getD 0 .u)).bind fun b50=>
 some ((.b b50),r49.2)
 else let h51:=WU.2.bump 1
 (k9 [(.s s38)] h51).bind fun r52=>
 (AV.aE 3 r52.1).bind fun c53=>
 (AV.asAgg 3 (c53.getD 0 .u)).bind fun c54=>
 Is c54 0 fun l55=>Is c54 1 fun l56=>Is c54 2 fun l57=>I6 c53 1 fun Uk=>I6 c53 2 fun Zv=>let h60:=r52.2.put WU.2.next (.cells true 25 [N,N,N])
 (h60.st (.n WU.2.next) 0 [L l55,L l56,L l57]).bind fun h61=>
 let h62:=h61.bump 1
 (k10 [L P8] h62).bind fun XO=>
 (AV.aE 2 XO.1).bind fun c64=>
 (AV.asAgg 3 (c64.getD 0 .u)).bind fun c65=>
 Is c65 0 fun l66=>Is c65 1 fun l67=>Is c65 2 fun l68=>I6 c64 1 fun Rp=>let h70:=XO.2.put h61.next (.cells true 25 [N,N,N])
 (h70.st (.n h61.next) 0 [L l66,L l67,L l68]).bind fun h71=>
 ((bif (((Uk:Int) == 0) == true) then
 some ([(.b ((Zv:Int) == 0))],h71)
 else some ([(.b false)],h71)):Option (List AV × AH O)).bind fun WL=>
 (AV.aV (WL.1.getD 0 .u)).bind fun b73=>
 ((bif (b73 == true) then
 some ([(.b ((Rp:Int) == 0))],WL.2)
 else some ([(.b false)],WL.2)):Option (List AV × AH O)).bind fun r74=>
 (AV.aV (r74.1.getD 0 .u)).bind fun b75=>
 ((bif (b75 == true) then
 (r74.2.ld (.n WU.2.next) 0).bind fun w76=>
 (AV.aG w76).bind fun l77=>
 (r74.2.ld (.n WU.2.next) 1).bind fun w78=>
 (AV.aG w78).bind fun l79=>
 (r74.2.ld (.n WU.2.next) 2).bind fun w80=>
 (AV.aG w80).bind fun l81=>
 (r74.2.ld (.n h61.next) 0).bind fun w82=>
 (AV.aG w82).bind fun l83=>
 (r74.2.ld (.n h61.next) 1).bind fun w84=>
 (AV.aG w84).bind fun Z9=>
 (r74.2.ld (.n h61.next) 2).bind fun w86=>
 (AV.aG w86).bind fun l87=>
 (k11 [(.agg [L l77,L l79,L l81]),(.agg [L l83,L Z9,L l87])] r74.2).bind fun r88=>
 (AV.aV r88.1).bind fun b89=>
 some ([(.b b89)],r88.2)
 else some ([(.b false)],r74.2)):Option (List AV × AH O)).bind fun r90=>
 (AV.aV (r90.1.getD 0 .u)).bind fun b91=>
 ((bif (b91 == true) then
 (r90.2.ld (.n WU.2.next) 0).bind fun w92=>
 (AV.aG w92).bind fun l93=>
 (r90.2.ld (.n WU.2.next) 1).bind fun w94=>
 (AV.aG w94).bind fun l95=>
 (r90.2.ld (.n WU.2.next) 2).bind fun w96=>
 (AV.aG w96).bind fun l97=>
 (r90.2.ld (.n h.next) 0).bind fun w98=>
 (AV.aG w98).bind fun l99=>
 (r90.2.ld (.n h.next) 1).bind fun arI=>
 (AV.aG arI).bind fun aeW=>
 (r90.2.ld (.n h.next) 2).bind fun aiZ=>
 (AV.aG aiZ).bind fun arJ=>
 (k11 [(.agg [L l93,L l95,L l97]),(.agg [L l99,L aeW,L arJ])] r90.2).bind fun Rq=>
 (AV.aV Rq.1).bind fun ai0=>
 some ([(.b ai0)],Rq.2)
 else some ([(.b false)],r90.2)):Option (List AV × AH O)).bind fun ajb=>
 (AV.aV (ajb.1.getD 0 .u)).bind fun arK=>
 ((bif (arK == true) then
 some ([(.b (!(s38 == ([]:List UInt8))))],ajb.2)
 else some ([(.b false)],ajb.2)):Option (List AV × AH O)).bind fun UK=>
 (AV.aV (UK.1.getD 0 .u)).bind fun arL=>
 ((bif (arL == true) then
 (UK.2.ld (.n WU.2.next) 0).bind fun arM=>
 (AV.aG arM).bind fun arN=>
 (UK.2.ld (.n WU.2.next) 1).bind fun arO=>
 (AV.aG arO).bind fun arP=>
 (UK.2.ld (.n WU.2.next) 2).bind fun arQ=>
 (AV.aG arQ).bind fun arR=>
 (UK.2.bC P8.1 P8.2 1).bind fun arS=>
 (dO arS).bind fun arT=>
 (k8 [(.agg [L arN,L arP,L arR])] UK.2).bind fun agk=>
 (AV.aG agk.1).bind fun ans=>
 (VH (agk.2.bC P8.1 P8.2 1) (UK.2.bC P8.1 P8.2 1)).bind fun _=>
 (agk.2.bC ans.1 ans.2 1).bind fun arU=>
 (dO arU).bind fun arV=>
 some ([(.b (arV == arT))],agk.2)
 else some ([(.b false)],UK.2)):Option (List AV × AH O)).bind fun ZJ=>
 (AV.aV (ZJ.1.getD 0 .u)).bind fun arW=>
 ((bif (arW == true) then
 (ZJ.2.ld (.n h61.next) 0).bind fun arX=>
 (AV.aG arX).bind fun aeR=>
 (ZJ.2.ld (.n h61.next) 1).bind fun arY=>
 (AV.aG arY).bind fun aeS=>
 (ZJ.2.ld (.n h61.next) 2).bind fun arZ=>
 (AV.aG arZ).bind fun aeT=>
 (k6 [(.agg [L aeR,L aeS,L aeT])] ZJ.2).bind fun ant=>
 (AV.dV ant.1).bind fun ar0=>
 some ([(.b (ar0 == s38))],ant.2)
 else some ([(.b false)],ZJ.2)):Option (List AV × AH O)).bind fun anu=>
 (AV.aV (anu.1.getD 0 .u)).bind fun ar1=>
 some ((.b ar1),anu.2))))
 else none
def haymowtop_TopWritten (F:Nat):Sm O:=dU (eP F) bq oi gT wK lu wF nX
theorem wa (k4 k5 k6 k7 k8 k9 k10 k11:Sm O):run (O:=O) Tryz.prog [(4,k4),(5,k5),(6,k6),(7,k7),(8,k8),(9,k9),(10,k10),(11,k11)] Tryz.f3 (.n .z (.n (.n (.g [(2,3,[(16,.one .b)]),(7,3,[(21,.one .b)])]) (.n .z .z)) (.n (.n .z (.n .z .z)) (.n (.d [] [0,2,1,3,4,5] [0,1,0,7,15,31]) (.n (.n .z (.n (.n (.g [(2,3,[(38,.one .b)])]) .z) .z)) (.n .z (.n .z (.n (.d [(2,2,[(55,.one .b)]),(6,2,[(59,.one .b)]),(10,3,[(64,.one .b)]),(15,3,[(69,.one .b)]),(20,2,[(73,.one .b)]),(24,6,[(81,.one .b)]),(32,4,[(87,.one .b)])] [0,1,2,3,4,5,6,7,8,9,10,11,12,13,14,15,16,17,18,19,20,21,22,23,24,25,28,29,26,27,30,31,32,33,35,34,36,37,38] [0,1,3,7,15,31,63,127,255,511,1023,2047,2047,8191,16383,32767,65535,65535,262143,524287,1048575,2097151,4194303,8388607,16777215,33554431,67108863,134217727,33554431,301989887,1073741823,2147483647,4294967295,8589934591,17179869183,8589934591,68719476735,137438953471,274877906943]) .z))))))))=dU k4 k5 k6 k7 k8 k9 k10 k11:=by kernel_rfl
theorem haymowtop_TopWritten_sound (F:Nat):ae RO Tryz.prog 3 (haymowtop_TopWritten F):=
   have h:ae RO Tryz.prog 3 (dU (eP F) bq oi gT wK lu wF nX):=(wa (eP F) bq oi gT wK lu wF nX)▸aU (af El (Bp F) <| af gL (eU) <| af MN (IK) <| af G0 (DK) <| af Oz (KL) <| af KO (G') <| af OH (KR) <| af M6 (IY) <| aA) mixed Tryz.func3 (by kernel_rfl) _
   h
end
end Go.Abs.Tryz
