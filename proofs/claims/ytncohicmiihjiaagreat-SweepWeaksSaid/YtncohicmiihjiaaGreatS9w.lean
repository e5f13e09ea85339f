/-
  What functions of the program do. No conditions.
-/
import Derived.Test.YtncohicmiihjiaaGreatS9s
import Derived.Test.YtncohicmiihjiaaGreatProg
import Derived.KernelRfl
set_option linter.unusedVariables false
set_option linter.unusedSimpArgs false
set_option linter.constructorNameAsVariable false
set_option maxRecDepth 100000
namespace Go.Abs.Tryz
open Go Go.Abs Go.Proofs
noncomputable section
variable {O:Type} {RO:O->Loc->(Nat->Option Obj)->Prop}
def qu0 (tE:Sm O):Sm O:=fun xs h=>
 bif Nat.beq xs.length 1 then
 (AV.bD (xs.getD 0 .u)).bind fun p0=>
 (bif (Option.isNone p0) then
 some ((.aB [(.p none),(.i .i64 1)]),h)
 else (tE [(.p p0),(.i .i64 0)] h).bind fun r1=>
 (AV.ay 2 r1.1).bind fun c2=>
 aq c2 0 fun n3=>
 aq c2 1 fun n4=>
 (bif ((n4:Int) != 0) then
 some ((.aB [(.p none),(.i .i64 n4)]),r1.2)
 else let h5:=r1.2.az 1
 let h6:=h5.put r1.2.next (.cells true 215 [(.p p0),(.i .i64 n3),(.i .i64 0),(.i .i64 0),(.i .i64 0),(.i .i64 0),(.i .i64 0)])
 some ((.aB [(.p (some ((.n r1.2.next),0))),(.i .i64 0)]),h6)))
 else none
def qu1:Sm O:=qu0 AN
theorem qu2:ag Tryz.prog 77:=Tryz.call77
theorem qu3 (tE:Sm O):run (O:=O) Tryz.prog [(99,tE)] Tryz.f77 (.n .z (.n (.n .z (.n .z .z)) (.n .z (.n (.n .z (.n .z .z)) .z))))=qu0 tE:=by kernel_rfl
theorem qu4:ai RO Tryz.prog 77 qu1:=bJ (qu3 _) (ae ZX ZY <| aE) Tryz.func77 (by kernel_rfl)
def qu5 (ze:Sm O):Sm O:=fun xs h=>
 bif Nat.beq xs.length 1 then
 (AV.bD (xs.getD 0 .u)).bind fun p0=>
 (ze [(.p p0),(.i .i64 3)] h).bind fun r1=>
 (AV.ay 2 r1.1).bind fun c2=>
 (AV.bD (c2.getD 0 .u)).bind fun p3=>
 aq c2 1 fun n4=>
 (bif ((n4:Int) != 0) then
 some ((.aB [(.p none),(.i .i64 n4)]),r1.2)
 else let h5:=r1.2.az 1
 let h6:=h5.put r1.2.next (.cells true 219 [(.p p3),(.i .i64 0),(.i .i64 0),(.i .i64 0)])
 some ((.aB [(.p (some ((.n r1.2.next),0))),(.i .i64 0)]),h6))
 else none
def qu6:Sm O:=qu5 XC
theorem qu7:ag Tryz.prog 78:=Tryz.call78
theorem qu8 (ze:Sm O):run (O:=O) Tryz.prog [(128,ze)] Tryz.f78 (.n .z (.n .z (.n (.n .z (.n .z .z)) .z)))=qu5 ze:=by kernel_rfl
theorem qu9:ai RO Tryz.prog 78 qu6:=bJ (qu8 _) (ae qbw qby <| aE) Tryz.func78 (by kernel_rfl)
def qva (k77 k78:Sm O):Sm O:=fun xs h=>
 bif Nat.beq xs.length 1 then
 (AV.bD (xs.getD 0 .u)).bind fun p0=>
 (k77 [(.p p0)] h).bind fun r1=>
 (AV.ay 2 r1.1).bind fun c2=>
 (AV.bD (c2.getD 0 .u)).bind fun p3=>
 aq c2 1 fun n4=>
 (bif ((n4:Int) != 0) then
 some ((.aB [(.p none),(.i .i64 n4)]),r1.2)
 else (k78 [(.p p0)] r1.2).bind fun r5=>
 (AV.ay 2 r5.1).bind fun c6=>
 (AV.bD (c6.getD 0 .u)).bind fun p7=>
 aq c6 1 fun n8=>
 (bif ((n8:Int) != 0) then
 some ((.aB [(.p none),(.i .i64 n8)]),r5.2)
 else (k78 [(.p p0)] r5.2).bind fun r9=>
 (AV.ay 2 r9.1).bind fun BK=>
 (AV.bD (BK.getD 0 .u)).bind fun HP=>
 aq BK 1 fun eD=>
 (bif ((eD:Int) != 0) then
 some ((.aB [(.p none),(.i .i64 eD)]),r9.2)
 else let jy:=r9.2.az 1
 let mQ:=jy.put r9.2.next (.cells true 168 [(.p p3),(.p p7),(.p HP)])
 some ((.aB [(.p (some ((.n r9.2.next),0))),(.i .i64 0)]),mQ))))
 else none
def qvb:Sm O:=qva qu1 qu6
theorem qvc:ag Tryz.prog 40:=Tryz.call40
theorem qvd (k77 k78:Sm O):run (O:=O) Tryz.prog [(77,k77),(78,k78)] Tryz.f40 (.n .z (.n .z (.n (.n .z (.n .z .z)) (.n .z (.n (.n .z (.n .z .z)) (.n .z (.n (.n .z (.n .z .z)) .z)))))))=qva k77 k78:=by kernel_rfl
theorem qve:ai RO Tryz.prog 40 qvb:=bJ (qvd _ _) (ae qu2 qu4 <| ae qu7 qu9 <| aE) Tryz.func40 (by kernel_rfl)
def qvf (zk:Sm O):Sm O:=fun xs h=>
 bif Nat.beq xs.length 1 then
 (AV.bD (xs.getD 0 .u)).bind fun p0=>
 let h1:=h.az 1
 let h2:=h1.put h.next (.cells true 184 [(.p none),(.i .i64 0),(.i .i64 0),(.i .i64 0),(.i .i64 0)])
 Option.bind p0 fun q3=>
 cD h2 q3.1 q3.2 fun p5=>
 (zk [(.p p5),(.i .i64 1),(.i .i64 2)] h2).bind fun r6=>
 (AV.asAgg 5 r6.1).bind fun c7=>
 (AV.bD (c7.getD 0 .u)).bind fun p8=>
 aq c7 1 fun n9=>
 aq c7 2 fun eO=>
 aq c7 3 fun fy=>
 aq c7 4 fun eD=>
 (r6.2.st (.n h.next) 0 [(.p p8),(.i .i64 n9),(.i .i64 eO),(.i .i64 fy),(.i .i64 eD)]).bind fun jy=>
 cD jy (.n h.next) 0 fun GV=>
 aj jy (.n h.next) 1 fun fe=>
 aj jy (.n h.next) 2 fun fu=>
 aj jy (.n h.next) 3 fun lM=>
 aj jy (.n h.next) 4 fun fj=>
 some ((.agg [(.p GV),(.i .i64 fe),(.i .i64 fu),(.i .i64 lM),(.i .i64 fj)]),jy)
 else none
def NO:Sm O:=qvf XE
theorem qvh:ag Tryz.prog 131:=Tryz.call131
theorem qvi (zk:Sm O):run (O:=O) Tryz.prog [(147,zk)] Tryz.f131 (.n .z .z)=qvf zk:=by kernel_rfl
theorem qvj:ai RO Tryz.prog 131 NO:=bJ (qvi _) (ae qhj qhl <| aE) Tryz.func131 (by kernel_rfl)
def qvk (qy:Sm O):Sm O:=fun xs h=>
 bif Nat.beq xs.length 2 then
 (AV.bD (xs.getD 0 .u)).bind fun p0=>
 aq xs 1 fun n1=>
 (qy [(.p p0),(.i .i64 n1)] h).bind fun r2=>
 (AV.ay 2 r2.1).bind fun c3=>
 cV c3 0 fun n4=>
 (AV.aZ (c3.getD 1 .u)).bind fun b5=>
 some ((.i .i64 (IntKind.i64.wrap (Int.fdiv n4 (2 ^ 1)))),r2.2)
 else none
def Xu:Sm O:=qvk UT
theorem qvm:ag Tryz.prog 134:=Tryz.call134
theorem qvn (qy:Sm O):run (O:=O) Tryz.prog [(168,qy)] Tryz.f134 (.n .z (.n .z .z))=qvk qy:=by kernel_rfl
theorem qvo:ai RO Tryz.prog 134 Xu:=bJ (qvn _) (ae qgz qg1 <| aE) Tryz.func134 (by kernel_rfl)
def qvp:Sm O:=fun xs h=>
 bif Nat.beq xs.length 2 then
 aq xs 0 fun n0=>
 aq xs 1 fun n1=>
 let v2:Int:=(bG .or .i64 (IntKind.i64.wrap (n1*2 ^ 20)) (IntKind.i64.wrap (n0 - 1)))
 some ((.i .i64 v2),h)
 else none
def qvq:Sm O:=qvp
theorem qvr:ag Tryz.prog 133:=Tryz.call133
theorem qvs:run (O:=O) Tryz.prog [] Tryz.f133 (.n .z .z)=qvp:=by kernel_rfl
theorem qvt:ai RO Tryz.prog 133 qvq:=bJ qvs (aE) Tryz.func133 (by kernel_rfl)
def qvu (zp gB wq qB zC Pt:Sm O):Sm O:=fun xs h=>
 bif Nat.beq xs.length 2 then
 (AV.bD (xs.getD 0 .u)).bind fun p0=>
 cV xs 1 fun n1=>
 Option.bind p0 fun q2=>
 cD h q2.1 q2.2 fun p4=>
 (zp [(.p p4)] h).bind fun r5=>
 (AV.ay 2 r5.1).bind fun c6=>
 aq c6 0 fun n7=>
 aq c6 1 fun n8=>
 (bif ((n8:Int) != 0) then
 some ((.aB [(.i .i64 0),(.i .i64 n8)]),r5.2)
 else Option.bind p0 fun q9=>
 cD r5.2 q9.1 q9.2 fun HP=>
 (gB [(.p HP),(.i .i64 n7),(.i .i64 0),(.i .u64 n1)] r5.2).bind fun iS=>
 (AV.aX .i64 iS.1).bind fun fc=>
 Option.bind p0 fun jx=>
 aj iS.2 jx.1 (jx.2+1) fun iQ=>
 aj iS.2 jx.1 ((jx.2+1)+1) fun iB=>
 aj iS.2 jx.1 (((jx.2+1)+1)+1) fun jU=>
 (wq [(.p p0)] iS.2).bind fun tD=>
 (AV.asAgg 5 tD.1).bind fun Q0=>
 (AV.bD (Q0.getD 0 .u)).bind fun p23=>
 aq Q0 1 fun nq=>
 aq Q0 2 fun oZ=>
 aq Q0 3 fun eN=>
 aq Q0 4 fun qK=>
 (aT (tD.2.ld jx.1 (jx.2+1)) (some (.i .i64 iQ))).bind fun _=>
 (aT (tD.2.ld jx.1 ((jx.2+1)+1)) (some (.i .i64 iB))).bind fun _=>
 (aT (tD.2.ld jx.1 (((jx.2+1)+1)+1)) (some (.i .i64 jU))).bind fun _=>
 (qB [(.agg [(.p p23),(.i .i64 nq),(.i .i64 oZ),(.i .i64 eN),(.i .i64 qK)]),(.agg [(.i .i64 iQ),(.i .i64 iB),(.i .i64 jU)]),(.i .i64 n7)] tD.2).bind fun tG=>
 (AV.ay 2 tG.1).bind fun BW=>
 (AV.asAgg 3 (BW.getD 0 .u)).bind fun DK=>
 aq DK 0 fun we=>
 aq DK 1 fun pr=>
 aq DK 2 fun BR=>
 aq BW 1 fun tJ=>
 Option.bind p0 fun q35=>
 (tG.2.st q35.1 (q35.2+1) [(.i .i64 we),(.i .i64 pr),(.i .i64 BR)]).bind fun h36=>
 Option.bind p0 fun Fj=>
 cD h36 Fj.1 Fj.2 fun p39=>
 (zC [(.p p39),(.i .i64 n7)] h36).bind fun Bp=>
 (AV.aX .i64 Bp.1).bind fun DC=>
 (Pt [(.i .i64 n7),(.i .i64 DC)] Bp.2).bind fun r42=>
 (AV.aX .i64 r42.1).bind fun xM=>
 some ((.aB [(.i .i64 xM),(.i .i64 0)]),r42.2))
 else none
def qvv:Sm O:=qvu Nu Gd NO Sk Xu qvq
theorem qvw:ag Tryz.prog 79:=Tryz.call79
theorem qvx (zp gB wq qB zC Pt:Sm O):run (O:=O) Tryz.prog [(129,zp),(130,gB),(131,wq),(132,qB),(134,zC),(133,Pt)] Tryz.f79 (.n .z (.n .z (.n (.n .z (.n .z .z)) (.n .z (.n (.d [] [0,1,3,4,5,6,7,2,8,9,10,11,12,13,14] [0,0,2,0,8,24,56,0,254,510,1022,1022,2047,6143,14335]) .z)))))=qvu zp gB wq qB zC Pt:=by kernel_rfl
theorem qvy:ai RO Tryz.prog 79 qvv:=bJ (qvx _ _ _ _ _ _) (ae qgk qgm <| ae qhe qhg <| ae qvh qvj <| ae qis qiu <| ae qvm qvo <| ae qvr qvt <| aE) Tryz.func79 (by kernel_rfl)
def qvz (k79:Sm O):Sm O:=fun xs h=>
 bif Nat.beq xs.length 2 then
 (AV.bD (xs.getD 0 .u)).bind fun p0=>
 cV xs 1 fun n1=>
 Option.bind p0 fun q2=>
 cD h q2.1 (q2.2+2) fun p4=>
 (k79 [(.p p4),(.i .u64 n1)] h).bind fun r5=>
 (AV.ay 2 r5.1).bind fun c6=>
 aq c6 0 fun n7=>
 aq c6 1 fun n8=>
 some ((.aB [(.i .i64 n7),(.i .i64 n8)]),r5.2)
 else none
def Vl:Sm O:=qvz qvv
theorem qv1:ag Tryz.prog 41:=Tryz.call41
theorem qv2 (k79:Sm O):run (O:=O) Tryz.prog [(79,k79)] Tryz.f41 (.n .z .z)=qvz k79:=by kernel_rfl
theorem qv3:ai RO Tryz.prog 41 Vl:=bJ (qv2 _) (ae qvw qvy <| aE) Tryz.func41 (by kernel_rfl)
def qv4 (k25:Sm O):Sm O:=fun xs h=>
 bif Nat.beq xs.length 3 then
 cV xs 0 fun n0=>
 (AV.kC (xs.getD 1 .u)).bind fun q1=>
 cD h q1.1 q1.2 fun p3=>
 (k25 [(.p p3),(.i .u64 n0)] h).bind fun r4=>
 (AV.aX .u64 r4.1).bind fun n5=>
 ((bif ((n5:Int) == 0) then
 (AV.kC (xs.getD 2 .u)).bind fun q6=>
 aj r4.2 q6.1 q6.2 fun n8=>
 (AV.kC (xs.getD 2 .u)).bind fun q9=>
 (r4.2.st q9.1 q9.2 [(.i .i64 (IntKind.i64.wrap (n8+1)))]).bind fun ij=>
 some ([],ij)
 else some ([],r4.2)):Option (List AV × AH O)).bind fun eQ=>
 some ((.i .u64 n5),eQ.2)
 else none
def Kl:Sm O:=qv4 SO
theorem qv6:ag Tryz.prog 81:=Tryz.call81
theorem qv7 (k25:Sm O):run (O:=O) Tryz.prog [(25,k25)] Tryz.f81 (.n .z (.n .z (.n (.n .z (.j false [] .z .z)) .z)))=qv4 k25:=by kernel_rfl
theorem qv8:ai RO Tryz.prog 81 Kl:=bJ (qv7 _) (ae qqo qqq <| aE) Tryz.func81 (by kernel_rfl)
def qv9 (n6:Int) (lv:Sm O) (Hi:Sm O) (f0:Option (Fn × List AV × List AV)) (xs:List AV):List AV × AH O->Option ((List AV × AH O) ⊕ ((List AV × AH O) ⊕ (AV × AH O))):=(fun r7=>
 (AV.aX .i64 (r7.1.getD 0 .u)).bind fun n8=>
 (AV.aX .i64 (r7.1.getD 1 .u)).bind fun n9=>
 (bif (decide (n9<n6)) then
 (pB [(125,lv),(1000000,Hi)] f0 [(.i .i64 n8)] r7.2).bind fun du=>
 (AV.aZ du.1).bind fun GL=>
 (bif (!GL) then
 ((some ((.aB []),du.2):Option (AV × AH O)).map fun r=>Sum.inr (Sum.inr r))
 else (AV.kC (xs.getD 2 .u)).bind fun px=>
 cD du.2 px.1 px.2 fun p14=>
 aj du.2 px.1 (px.2+1) fun iQ=>
 aj du.2 px.1 ((px.2+1)+1) fun iB=>
 aj du.2 px.1 (((px.2+1)+1)+1) fun jU=>
 aj du.2 px.1 ((((px.2+1)+1)+1)+1) fun iA=>
 (lv [(.agg [(.p p14),(.i .i64 iQ),(.i .i64 iB),(.i .i64 jU),(.i .i64 iA)]),(.i .i64 n8)] du.2).bind fun vp=>
 (AV.ay 2 vp.1).bind fun HR=>
 aq HR 0 fun oZ=>
 aq HR 1 fun eN=>
 (bif ((eN:Int) != 0) then
 ((some ((.aB []),vp.2):Option (AV × AH O)).map fun r=>Sum.inr (Sum.inr r))
 else some (Sum.inl ([(.i .i64 oZ),(.i .i64 (IntKind.i64.wrap (n9+1)))],vp.2))))
 else some (Sum.inr (Sum.inl ([],r7.2)))))
def qwa (lv Hi:Sm O):Sm O:=fun xs h=>
 bif Nat.beq xs.length 3 then
 (AV.Hk (xs.getD 0 .u)).bind fun f0=>
 (AV.kC (xs.getD 1 .u)).bind fun q1=>
 aj h q1.1 q1.2 fun n3=>
 (AV.kC (xs.getD 1 .u)).bind fun q4=>
 aj h q4.1 (q4.2+2) fun n6=>
 cv (S:=List AV × AH O) (R:=(AV × AH O)) (bC (S:=List AV × AH O) (T:=(List AV × AH O) ⊕ (AV × AH O)) (qv9 n6 lv Hi f0 xs) ([(.i .i64 n3),(.i .i64 0)],h)) fun jR=>
 some ((.aB []),jR.2)
 else none
def Va (Hi:Sm O):Sm O:=qwa Qr Hi
theorem qwc:ag Tryz.prog 184:=Tryz.call184
theorem qwd (lv Hi:Sm O):run (O:=O) Tryz.prog [(125,lv),(1000000,Hi)] Tryz.f184 (.n .z (.n .z (.n (.lp true 0 [(4,.one (.i .i64)),(11,.one (.i .i64))] [] (.n .z (.n .z (.n (.n (.n (.n .z .z) (.n .z (.n (.n .z .z) .z))) .z) .z)))) .z)))=qwa lv Hi:=by kernel_rfl
theorem qwe {Hi:Sm O} (hy:gr RO Tryz.prog Hi):ai RO Tryz.prog 184 (Va Hi):=
   have h:ai RO Tryz.prog 184 (qwa Qr Hi):=(qwd Qr Hi)▸eH (ae qq3 (qq5) <| af' hy <| aE) mixed Tryz.func184 (by kernel_rfl) _
   h
def qwf:Sm O:=fun xs h=>
 bif Nat.beq xs.length 2 then
 (AV.asAgg 5 (xs.getD 0 .u)).bind fun c0=>
 (AV.bD (c0.getD 0 .u)).bind fun p1=>
 aq c0 1 fun n2=>
 aq c0 2 fun n3=>
 aq c0 3 fun n4=>
 aq c0 4 fun n5=>
 (AV.asAgg 3 (xs.getD 1 .u)).bind fun c6=>
 aq c6 0 fun n7=>
 aq c6 1 fun n8=>
 aq c6 2 fun n9=>
 let ij:=h.az 2
 let iq:=ij.put h.next (.cells true 184 [(.p p1),(.i .i64 n2),(.i .i64 n3),(.i .i64 n4),(.i .i64 n5)])
 let mS:=iq.put (h.next+1) (.cells true 155 [(.i .i64 n7),(.i .i64 n8),(.i .i64 n9)])
 some ((.fn (some (.func 184,[],[(.p (some ((.n (h.next+1)),0))),(.p (some ((.n h.next),0)))]))),mS)
 else none
def UY:Sm O:=qwf
theorem qwh:ag Tryz.prog 171:=Tryz.call171
theorem qwi:run (O:=O) Tryz.prog [] Tryz.f171 (.n .z .z)=qwf:=by kernel_rfl
theorem qwj:ai RO Tryz.prog 171 UY:=bJ qwi (aE) Tryz.func171 (by kernel_rfl)
def qwk (eF gB Hj:Sm O):Sm O:=x8 135000 1 fun abR ys0 abS h=>
 (AV.bD (abR 2)).bind fun p0=>
 (AV.bD (abR 3)).bind fun p1=>
 aq ys0 0 fun n2=>
 (zX h abS).bind fun h3=>
 Option.bind p0 fun q4=>
 cD h3 q4.1 q4.2 fun p6=>
 Option.bind p6 fun q7=>
 cD h3 q7.1 q7.2 fun p9=>
 (eF [(.p p9),(.i .i64 n2),(.i .i64 0)] h3).bind fun du=>
 (AV.ay 2 du.1).bind fun rW=>
 cV rW 0 fun eD=>
 aq rW 1 fun fc=>
 ((bif ((eD:Int) != 0) then
 Option.bind p0 fun jx=>
 cD du.2 jx.1 jx.2 fun vd=>
 Option.bind p0 fun sD=>
 Option.bind vd fun BN=>
 cD du.2 BN.1 BN.2 fun Rl=>
 Option.bind p1 fun Ln=>
 (du.2.ld Ln.1 Ln.2).bind fun w22=>
 (AV.Hk w22).bind fun f23=>
 Option.bind p1 fun HL=>
 (pB [(119,eF),(130,gB),(81,Hj)] f23 [(.i .u64 eD)] du.2).bind fun eJ=>
 (AV.aX .u64 eJ.1).bind fun eN=>
 (aT (eJ.2.ld sD.1 sD.2) (some (.p vd))).bind fun _=>
 (aT (eJ.2.ld BN.1 BN.2) (some (.p Rl))).bind fun _=>
 (gB [(.p Rl),(.i .i64 n2),(.i .i64 0),(.i .u64 eN)] eJ.2).bind fun jR=>
 (AV.aX .i64 jR.1).bind fun qw=>
 some ([],jR.2)
 else some ([],du.2)):Option (List AV × AH O)).bind fun lB=>
 (pE lB.2 abS .ready).bind fun h=>some (.b true,h)
def SJ:Sm O:=qwk BF Gd Kl
theorem qwm (eF gB Hj:Sm O):x9 (O:=O) Tryz.prog [(119,eF),(130,gB),(81,Hj)] 135 Tryz.f135 0 [(2,.one .p),(3,.one .p)] [(16,.one (.i .i64))] (.n .z (.n (.n .z (.n .z (.j false [] (.d [] [0,1,2,3,4,5,6,7,8] [0,1,3,7,0,0,0,96,255]) .z))) .z))=qwk eF gB Hj:=by kernel_rfl
theorem qwn:gr RO Tryz.prog (SJ):=
   have h:gr RO Tryz.prog (qwk BF Gd Kl):=(qwm BF Gd Kl)▸vP (ae TS (TT) <| ae qhe (qhg) <| ae qv6 (qv8) <| aE) mixed Tryz.func135 _ _ _ _
   h
def qwo (wq LO eF gB Hj Fl:Sm O):Sm O:=fun xs h=>
 bif Nat.beq xs.length 2 then
 (AV.bD (xs.getD 0 .u)).bind fun p0=>
 (AV.Hk (xs.getD 1 .u)).bind fun f1=>
 let h2:=h.az 2
 let h3:=h2.put h.next (.cells true 164 [(.p p0)])
 let h4:=h3.put (h.next+1) (.cells true 35 [(.fn f1)])
 (h4.ld (.n (h.next+1)) 0).bind fun w5=>
 (AV.Hk w5).bind fun f6=>
 (bif (Option.isNone f6) then
 some ((.aB []),h4)
 else cD h4 (.n h.next) 0 fun p8=>
 cD h4 (.n h.next) 0 fun tI=>
 Option.bind tI fun sC=>
 aj h4 sC.1 (sC.2+1) fun fc=>
 aj h4 sC.1 ((sC.2+1)+1) fun fR=>
 aj h4 sC.1 (((sC.2+1)+1)+1) fun fe=>
 (wq [(.p p8)] h4).bind fun iY=>
 (AV.asAgg 5 iY.1).bind fun c19=>
 (AV.bD (c19.getD 0 .u)).bind fun Rl=>
 aq c19 1 fun lM=>
 aq c19 2 fun iA=>
 aq c19 3 fun fj=>
 aq c19 4 fun nq=>
 (aT (iY.2.ld (.n h.next) 0) (some (.p tI))).bind fun _=>
 (aT (iY.2.ld sC.1 (sC.2+1)) (some (.i .i64 fc))).bind fun _=>
 (aT (iY.2.ld sC.1 ((sC.2+1)+1)) (some (.i .i64 fR))).bind fun _=>
 (aT (iY.2.ld sC.1 (((sC.2+1)+1)+1)) (some (.i .i64 fe))).bind fun _=>
 (LO [(.agg [(.p Rl),(.i .i64 lM),(.i .i64 iA),(.i .i64 fj),(.i .i64 nq)]),(.agg [(.i .i64 fc),(.i .i64 fR),(.i .i64 fe)])] iY.2).bind fun eJ=>
 (AV.Hk eJ.1).bind fun f26=>
 (xV [(131,wq),(171,LO),(119,eF),(130,gB),(81,Hj),(2000184,Fl)] f26 135000 [(2,(.p (some ((.n h.next),0)))),(3,(.p (some ((.n (h.next+1)),0))))] eJ.2).bind fun jR=>
 (MG jR.2 eJ.2.next).bind fun al0=>
 let Bl:=jR.2.kill eJ.2.next
 (bif Nat.beq al0 0 then
 some ((.aB []),Bl)
 else none))
 else none
def qwp:Sm O:=qwo NO UY BF Gd Kl (Va (SJ))
theorem qwq:ag Tryz.prog 135:=Tryz.call135
theorem qwr (wq LO eF gB Hj Fl:Sm O):run (O:=O) Tryz.prog [(131,wq),(171,LO),(119,eF),(130,gB),(81,Hj),(2000184,Fl)] Tryz.f135 (.n .z (.n (.n .z .z) (.n (.d [] [0,2,3,4,5,1,6] [0,1,0,4,12,28,63]) (.n (.rf 135000 [2,3] []) .z))))=qwo wq LO eF gB Hj Fl:=by kernel_rfl
theorem qws:ai RO Tryz.prog 135 (qwp):=
   have h:ai RO Tryz.prog 135 (qwo NO UY BF Gd Kl (Va (SJ))):=(qwr NO UY BF Gd Kl (Va (SJ)))▸CB (ae qvh (qvj) <| ae qwh (qwj) <| ae TS (TT) <| ae qhe (qhg) <| ae qv6 (qv8) <| grf (c:=184) qwc (qwe (qwn)) <| aE) mixed Tryz.func135 (by kernel_rfl) _ (by kernel_rfl)
   h
def qwt (Pu:Sm O):Sm O:=fun xs h=>
 bif Nat.beq xs.length 2 then
 (AV.bD (xs.getD 0 .u)).bind fun p0=>
 (AV.Hk (xs.getD 1 .u)).bind fun f1=>
 Option.bind p0 fun q2=>
 cD h q2.1 (q2.2+2) fun p4=>
 (Pu [(.p p4),(.fn f1)] h).bind fun r5=>
 (AV.ay 0 r5.1).bind fun c6=>
 some ((.aB []),r5.2)
 else none
def qwu:Sm O:=qwt qwp
theorem qwv:ag Tryz.prog 80:=Tryz.call80
theorem qww (Pu:Sm O):run (O:=O) Tryz.prog [(135,Pu)] Tryz.f80 .z=qwt Pu:=by kernel_rfl
theorem qwx:ai RO Tryz.prog 80 qwu:=bJ (qww _) (ae qwq qws <| aE) Tryz.func80 (by kernel_rfl)
def qwy (Hj k80:Sm O):Sm O:=fun xs h=>
 bif Nat.beq xs.length 2 then
 (AV.bD (xs.getD 0 .u)).bind fun p0=>
 (AV.bD (xs.getD 1 .u)).bind fun p1=>
 let h2:=h.az 1
 let h3:=h2.put h.next (.cells true 29 [(.p p0)])
 let h4:=h3.az 1
 let h5:=h4.put h3.next (.cells true 3 [(.i .i64 0)])
 (h5.st (.n h3.next) 0 [(.i .i64 0)]).bind fun h6=>
 (k80 [(.p p1),(.fn (some (.func 81,[],[(.p (some ((.n h.next),0))),(.p (some ((.n h3.next),0)))])))] h6).bind fun r7=>
 (AV.ay 0 r7.1).bind fun c8=>
 aj r7.2 (.n h3.next) 0 fun eO=>
 some ((.i .i64 eO),r7.2)
 else none
def qwz:Sm O:=qwy Kl qwu
theorem qw0:ag Tryz.prog 42:=Tryz.call42
theorem qw1 (Hj k80:Sm O):run (O:=O) Tryz.prog [(81,Hj),(80,k80)] Tryz.f42 (.n .z (.n .z (.n .z .z)))=qwy Hj k80:=by kernel_rfl
theorem qw2:ai RO Tryz.prog 42 qwz:=bJ (qw1 _ _) (ae qv6 qv8 <| ae qwv qwx <| aE) Tryz.func42 (by kernel_rfl)
def qw3 (zi zC:Sm O):Sm O:=fun xs h=>
 bif Nat.beq xs.length 2 then
 (AV.bD (xs.getD 0 .u)).bind fun p0=>
 aq xs 1 fun n1=>
 let v2:Int:=(IntKind.i64.wrap ((bG .and .i64 n1 1048575)+1))
 ((bif ((decide (n1<0)) == false) then
 Option.bind p0 fun q3=>
 cD h q3.1 q3.2 fun p5=>
 (zi [(.p p5),(.i .i64 v2)] h).bind fun r6=>
 (AV.aZ r6.1).bind fun b7=>
 some ([(.b (!b7))],r6.2)
 else some ([(.b true)],h)):Option (List AV × AH O)).bind fun r8=>
 (AV.aZ (r8.1.getD 0 .u)).bind fun b9=>
 ((bif (b9 == false) then
 Option.bind p0 fun kW=>
 cD r8.2 kW.1 kW.2 fun BL=>
 (zC [(.p BL),(.i .i64 v2)] r8.2).bind fun fk=>
 (AV.aX .i64 fk.1).bind fun iX=>
 some ([(.b ((iX:Int) != (Int.fdiv n1 (2 ^ 20))))],fk.2)
 else some ([(.b true)],r8.2)):Option (List AV × AH O)).bind fun fN=>
 (AV.aZ (fN.1.getD 0 .u)).bind fun TU=>
 (bif TU then
 some ((.aB [(.i .i64 0),(.i .i64 30)]),fN.2)
 else some ((.aB [(.i .i64 v2),(.i .i64 0)]),fN.2))
 else none
def qw4:Sm O:=qw3 Xt Xu
theorem qw5:ag Tryz.prog 136:=Tryz.call136
theorem qw6 (zi zC:Sm O):run (O:=O) Tryz.prog [(172,zi),(134,zC)] Tryz.f136 (.n .z (.n .z (.n (.n (.g [(2,7,[(20,.one .b)]),(11,9,[(31,.one .b)])]) (.n .z .z)) .z)))=qw3 zi zC:=by kernel_rfl
theorem qw7:ai RO Tryz.prog 136 qw4:=bJ (qw6 _ _) (ae qg4 qg6 <| ae qvm qvo <| aE) Tryz.func136 (by kernel_rfl)
def qw8 (Pv eF:Sm O):Sm O:=fun xs h=>
 bif Nat.beq xs.length 2 then
 (AV.bD (xs.getD 0 .u)).bind fun p0=>
 aq xs 1 fun n1=>
 (Pv [(.p p0),(.i .i64 n1)] h).bind fun r2=>
 (AV.ay 2 r2.1).bind fun c3=>
 aq c3 0 fun n4=>
 aq c3 1 fun n5=>
 (bif ((n5:Int) != 0) then
 some ((.aB [(.i .u64 0),(.i .i64 n5)]),r2.2)
 else Option.bind p0 fun q6=>
 cD r2.2 q6.1 q6.2 fun p8=>
 (eF [(.p p8),(.i .i64 n4),(.i .i64 0)] r2.2).bind fun r9=>
 (AV.ay 2 r9.1).bind fun BK=>
 cV BK 0 fun fy=>
 aq BK 1 fun eD=>
 some ((.aB [(.i .u64 fy),(.i .i64 eD)]),r9.2))
 else none
def qw9:Sm O:=qw8 qw4 BF
theorem qxa:ag Tryz.prog 82:=Tryz.call82
theorem qxb (Pv eF:Sm O):run (O:=O) Tryz.prog [(136,Pv),(119,eF)] Tryz.f82 (.n .z (.n .z (.n (.n .z (.n .z .z)) (.n .z .z))))=qw8 Pv eF:=by kernel_rfl
theorem qxc:ai RO Tryz.prog 82 qw9:=bJ (qxb _ _) (ae qw5 qw7 <| ae TS TT <| aE) Tryz.func82 (by kernel_rfl)
def qxd (k82:Sm O):Sm O:=fun xs h=>
 bif Nat.beq xs.length 2 then
 (AV.bD (xs.getD 0 .u)).bind fun p0=>
 aq xs 1 fun n1=>
 Option.bind p0 fun q2=>
 cD h q2.1 (q2.2+2) fun p4=>
 (k82 [(.p p4),(.i .i64 n1)] h).bind fun r5=>
 (AV.ay 2 r5.1).bind fun c6=>
 cV c6 0 fun n7=>
 aq c6 1 fun n8=>
 some ((.aB [(.i .u64 n7),(.i .i64 n8)]),r5.2)
 else none
def Yy:Sm O:=qxd qw9
theorem qxf:ag Tryz.prog 43:=Tryz.call43
theorem qxg (k82:Sm O):run (O:=O) Tryz.prog [(82,k82)] Tryz.f43 (.n .z .z)=qxd k82:=by kernel_rfl
theorem qxh:ai RO Tryz.prog 43 Yy:=bJ (qxg _) (ae qxa qxc <| aE) Tryz.func43 (by kernel_rfl)
def qxi (l81:SA × Nat) (V4:Sm O) (Rr:Option (fH × Nat)) (BX:SA × Nat) (dZ:List AV × AH O):List AV × AH O->Option ((List AV × AH O) ⊕ ((List AV × AH O) ⊕ (AV × AH O))):=(fun Pw=>
 (AV.aX .i64 (Pw.1.getD 0 .u)).bind fun jA=>
 (bif (decide (jA<(l81.2:Int))) then
 (bif ((decide ((0:Int)<=jA)) && (decide (jA<(l81.2:Int)))) then
 (SA.ref l81.1).bind fun abV=>
 aj Pw.2 abV.1 (abV.2+(jA.toNat*1)) fun TX=>
 (V4 [(.p Rr),(.i .i64 TX)] Pw.2).bind fun zw=>
 (AV.ay 2 zw.1).bind fun abW=>
 cV abW 0 fun Dp=>
 aq abW 1 fun DI=>
 (bif ((decide ((0:Int)<=jA)) && (decide (jA<(BX.2:Int)))) then
 (SA.ref BX.1).bind fun abX=>
 aj zw.2 abX.1 (abX.2+(jA.toNat*1)) fun Te=>
 ((bif (decide (Te>=0)) then
 aV zw.2 (.n dZ.2.next) 1 fun LL=>
 (bif ((decide ((0:Int)<=jA)) && (decide (jA<(BX.2:Int)))) then
 (SA.ref BX.1).bind fun abY=>
 aj zw.2 abY.1 (abY.2+(jA.toNat*1)) fun Dq=>
 (bif ((decide ((0:Int)<=Dq)) && (decide (Dq<(LL.2:Int)))) then
 (SA.ref LL.1).bind fun abZ=>
 gO zw.2 abZ.1 (abZ.2+(Dq.toNat*1)) fun Le=>
 some ([(.i .u64 Le)],zw.2)
 else none)
 else none)
 else some ([(.i .u64 0)],zw.2)):Option (List AV × AH O)).bind fun Uj=>
 (AV.aX .u64 (Uj.1.getD 0 .u)).bind fun OU=>
 ((bif (((Dp:Int) != OU) == false) then
 some ([(.b ((DI:Int) != 0))],Uj.2)
 else some ([(.b true)],Uj.2)):Option (List AV × AH O)).bind fun Uk=>
 (AV.aZ (Uk.1.getD 0 .u)).bind fun Tg=>
 (bif Tg then
 ((some ((.b false),Uk.2):Option (AV × AH O)).map fun r=>Sum.inr (Sum.inr r))
 else some (Sum.inl ([(.i .i64 (IntKind.i64.wrap (jA+1)))],Uk.2)))
 else none)
 else none)
 else some (Sum.inr (Sum.inl ([],Pw.2)))))
def Vn (BX:SA × Nat) (dZ:List AV × AH O):List AV × AH O->Option ((List AV × AH O) ⊕ (List AV × AH O)):=(fun zL=>
 (AV.aX .i64 (zL.1.getD 0 .u)).bind fun Fe=>
 (AV.aX .i64 (zL.1.getD 1 .u)).bind fun Bj=>
 (bif (decide (Bj<(BX.2:Int))) then
 (bif ((decide ((0:Int)<=Bj)) && (decide (Bj<(BX.2:Int)))) then
 (SA.ref BX.1).bind fun Q9=>
 aj zL.2 Q9.1 (Q9.2+(Bj.toNat*1)) fun EY=>
 ((bif ((decide (EY>=0)) == true) then
 aV zL.2 (.n dZ.2.next) 1 fun Zv=>
 (bif ((decide ((0:Int)<=Bj)) && (decide (Bj<(BX.2:Int)))) then
 (SA.ref BX.1).bind fun q91=>
 aj zL.2 q91.1 (q91.2+(Bj.toNat*1)) fun OR=>
 (bif ((decide ((0:Int)<=OR)) && (decide (OR<(Zv.2:Int)))) then
 (SA.ref Zv.1).bind fun q94=>
 gO zL.2 q94.1 (q94.2+(OR.toNat*1)) fun zJ=>
 some ([(.b ((zJ:Int) == 0))],zL.2)
 else none)
 else none)
 else some ([(.b false)],zL.2)):Option (List AV × AH O)).bind fun O4=>
 (AV.aZ (O4.1.getD 0 .u)).bind fun b98=>
 ((bif b98 then
 some ([(.i .i64 (IntKind.i64.wrap (Fe+1)))],O4.2)
 else some ([(.i .i64 Fe)],O4.2)):Option (List AV × AH O)).bind fun Pf=>
 (AV.aX .i64 (Pf.1.getD 0 .u)).bind fun DE=>
 some (Sum.inl ([(.i .i64 DE),(.i .i64 (IntKind.i64.wrap (Bj+1)))],Pf.2))
 else none)
 else some (Sum.inr ([(.i .i64 Fe)],zL.2))))
def YB (l4:SA × Nat) (dZ:List AV × AH O) (V5:Sm O) (Rr:Option (fH × Nat)):List AV × AH O->Option ((List AV × AH O) ⊕ ((List AV × AH O) ⊕ (AV × AH O))):=(fun sT=>
 (AV.dF (sT.1.getD 0 .u)).bind fun Lu=>
 (AV.dF (sT.1.getD 1 .u)).bind fun Rq=>
 (AV.aX .i64 (sT.1.getD 2 .u)).bind fun xB=>
 (bif (decide (xB<(l4.2:Int))) then
 (bif ((decide ((0:Int)<=xB)) && (decide (xB<(l4.2:Int)))) then
 (SA.ref l4.1).bind fun Mo=>
 (sT.2.ld Mo.1 (Mo.2+(xB.toNat*1))).bind fun w54=>
 (AV.aX .u8 w54).bind fun Lm=>
 aV sT.2 (.n dZ.2.next) 5 fun Rc=>
 (bif ((IntKind.i64.wrap ((Rc.2:Int)+1)) == 0) then
 none
 else let v58:Int:=(Int.tmod (IntKind.i64.wrap Lm) (IntKind.i64.wrap ((Rc.2:Int)+1)))
 ((bif (decide ((IntKind.i64.wrap (v58 - 1))>=0)) then
 aV sT.2 (.n dZ.2.next) 5 fun l60=>
 (bif ((decide ((0:Int)<=(IntKind.i64.wrap (v58 - 1)))) && (decide ((IntKind.i64.wrap (v58 - 1))<(l60.2:Int)))) then
 (SA.ref l60.1).bind fun q61=>
 gO sT.2 q61.1 ((q61.2+((IntKind.i64.wrap (v58 - 1)).toNat*8))+7) fun Q5=>
 some ([(.i .u64 Q5)],sT.2)
 else none)
 else some ([(.i .u64 0)],sT.2)):Option (List AV × AH O)).bind fun vh=>
 (AV.aX .u64 (vh.1.getD 0 .u)).bind fun Fb=>
 (V5 [(.p Rr),(.i .u64 Fb)] vh.2).bind fun oV=>
 (AV.ay 2 oV.1).bind fun YC=>
 aq YC 0 fun Kv=>
 aq YC 1 fun Gy=>
 (bif ((Gy:Int) != 0) then
 ((some ((.b false),oV.2):Option (AV × AH O)).map fun r=>Sum.inr (Sum.inr r))
 else let lN:=oV.2.az 2
 let Ud:=lN.put oV.2.next (.cells true 3 [(.i .i64 Kv)])
 (Ud.bT (.loc (.n oV.2.next) 0 1) 1 1).bind fun ab1=>
 (bif (Nat.ble ((Lu.2+1)*9) 35184372088832) then
 (Ud.cF (oV.2.next+1) 3 1 Lu.1 Lu.2 1 ab1).bind fun Gz=>
 (AV.dF Gz.1).bind fun EI=>
 let h75:=Gz.2.az 2
 let h76:=h75.put Gz.2.next (.cells true 3 [(.i .i64 (IntKind.i64.wrap (v58 - 1)))])
 (h76.bT (.loc (.n Gz.2.next) 0 1) 1 1).bind fun ab2=>
 (bif (Nat.ble ((Rq.2+1)*9) 35184372088832) then
 (h76.cF (Gz.2.next+1) 3 1 Rq.1 Rq.2 1 ab2).bind fun YD=>
 (AV.dF YD.1).bind fun YE=>
 some (Sum.inl ([(.sl EI.1 EI.2),(.sl YE.1 YE.2),(.i .i64 (IntKind.i64.wrap (xB+1)))],YD.2))
 else none)
 else none)))
 else none)
 else some (Sum.inr (Sum.inl ([(.sl Lu.1 Lu.2),(.sl Rq.1 Rq.2)],sT.2)))))
def qxl (k28 k29 k30 O6 k40 V5 k42 V4:Sm O):Sm O:=fun xs h=>
 bif Nat.beq xs.length 2 then
 (AV.asAgg 3 (xs.getD 0 .u)).bind fun c0=>
 dx c0 0 fun l1=>
 dx c0 1 fun l2=>
 dx c0 2 fun l3=>
 dx xs 1 fun l4=>
 let h5:=h.az 1
 let h6:=h5.put h.next (.cells true 78 [(.sl l1.1 l1.2),(.sl l2.1 l2.2),(.sl l3.1 l3.2)])
 (k28 [] h6).bind fun r7=>
 (AV.aZ r7.1).bind fun b8=>
 (bif (!b8) then
 some ((.b false),r7.2)
 else aV r7.2 (.n h.next) 0 fun TH=>
 aV r7.2 (.n h.next) 1 fun yZ=>
 aV r7.2 (.n h.next) 2 fun qJ=>
 (k29 [(.agg [(.sl TH.1 TH.2),(.sl yZ.1 yZ.2),(.sl qJ.1 qJ.2)])] r7.2).bind fun fN=>
 (AV.aZ fN.1).bind fun TU=>
 ((bif ((!TU) == false) then
 some ([(.b (decide ((l4.2:Int) > 20)))],fN.2)
 else some ([(.b true)],fN.2)):Option (List AV × AH O)).bind fun dZ=>
 (AV.aZ (dZ.1.getD 0 .u)).bind fun Dv=>
 (bif Dv then
 some ((.b true),dZ.2)
 else let vo:=dZ.2.az 1
 aV vo (.n h.next) 0 fun Q2=>
 aV vo (.n h.next) 1 fun BM=>
 aV vo (.n h.next) 2 fun Lk=>
 (k30 [(.agg [(.sl Q2.1 Q2.2),(.sl BM.1 BM.2),(.sl Lk.1 Lk.2)])] vo).bind fun lC=>
 (AV.ay 4 lC.1).bind fun E0=>
 (AV.bD (E0.getD 0 .u)).bind fun p28=>
 (AV.bD (E0.getD 1 .u)).bind fun p29=>
 (AV.asAgg 7 (E0.getD 2 .u)).bind fun DK=>
 dx DK 0 fun LM=>
 dx DK 1 fun l32=>
 aq DK 2 fun BR=>
 dx DK 3 fun l34=>
 aq DK 4 fun wg=>
 dx DK 5 fun l36=>
 dx DK 6 fun l37=>
 (AV.aZ (E0.getD 3 .u)).bind fun TW=>
 let h39:=lC.2.put dZ.2.next (.cells true 81 [(.sl .nil 0),(.sl .nil 0),(.i .i64 0),(.sl .nil 0),(.i .i64 0),(.sl .nil 0),(.sl .nil 0)])
 (h39.st (.n dZ.2.next) 0 [(.sl LM.1 LM.2),(.sl l32.1 l32.2),(.i .i64 BR),(.sl l34.1 l34.2),(.i .i64 wg),(.sl l36.1 l36.2),(.sl l37.1 l37.2)]).bind fun h40=>
 (bif (!TW) then
 some ((.b false),h40)
 else (O6 [(.p p28)] h40).bind fun V3=>
 (AV.bD V3.1).bind fun p42=>
 (k40 [(.p p42)] V3.2).bind fun vu=>
 (AV.ay 2 vu.1).bind fun c44=>
 (AV.bD (c44.getD 0 .u)).bind fun Rr=>
 aq c44 1 fun Ll=>
 ((bif ((Option.isNone Rr) == false) then
 some ([(.b ((Ll:Int) != 0))],vu.2)
 else some ([(.b true)],vu.2)):Option (List AV × AH O)).bind fun BP=>
 (AV.aZ (BP.1.getD 0 .u)).bind fun b48=>
 (bif b48 then
 some ((.b false),BP.2)
 else cv (S:=List AV × AH O) (R:=(AV × AH O)) (bC (S:=List AV × AH O) (T:=(List AV × AH O) ⊕ (AV × AH O)) (YB l4 dZ V5 Rr) ([(.sl .nil 0),(.sl .nil 0),(.i .i64 0)],BP.2)) fun G3=>
 (AV.dF (G3.1.getD 0 .u)).bind fun l81=>
 (AV.dF (G3.1.getD 1 .u)).bind fun BX=>
 (bC (S:=List AV × AH O) (T:=List AV × AH O) (Vn BX dZ) ([(.i .i64 0),(.i .i64 0)],G3.2)).bind fun ab3=>
 (AV.aX .i64 (ab3.1.getD 0 .u)).bind fun Bn=>
 (k42 [(.p p29),(.p Rr)] ab3.2).bind fun Ul=>
 (AV.aX .i64 Ul.1).bind fun LI=>
 (bif ((LI:Int) != Bn) then
 some ((.b false),Ul.2)
 else cv (S:=List AV × AH O) (R:=(AV × AH O)) (bC (S:=List AV × AH O) (T:=(List AV × AH O) ⊕ (AV × AH O)) (qxi l81 V4 Rr BX dZ) ([(.i .i64 0)],Ul.2)) fun al1=>
 some ((.b true),al1.2))))))
 else none
def law22_SweepWeaks:Sm O:=qxl YJ Vo quw Xc qvb Vl qwz Yy
theorem qxm (k28 k29 k30 O6 k40 V5 k42 V4:Sm O):run (O:=O) Tryz.prog [(28,k28),(29,k29),(30,k30),(16,O6),(40,k40),(41,V5),(42,k42),(43,V4)] Tryz.f7 (.n .z (.n (.n .z (.n .z .z)) (.n (.n (.g [(3,3,[(33,.one .b)])]) (.n .z .z)) (.n .z (.n (.n .z (.n .z .z)) (.n .z (.n (.n (.g [(2,2,[(54,.one .b)])]) (.n .z .z)) (.n .z (.n (.n .z (.n (.lp true 0 [(11,.one .sl),(12,.one .sl),(13,.one (.i .i64))] [(11,.one .sl),(12,.one .sl)] (.n (.n .z .z) (.n (.n (.n (.d [] [0,1,2,3,4,5,6,7,8,9,10,11] [0,0,3,7,15,0,32,96,224,511,1023,2047]) (.n .z (.n (.n .z (.j false [(15,.one (.i .u64))] .z .z)) (.n .z (.n (.n .z (.n .z .z)) .z))))) .z) .z))) .z)) (.n .z (.n (.n .z (.n (.lp false 2 [(18,.one (.i .i64)),(19,.one (.i .i64))] [(18,.one (.i .i64))] (.n (.n .z .z) (.n (.n (.n (.d [(5,10,[(118,.one .b)])] [0,1,2,3,4,5,6,7,8,9,10,11,12,13,14,15,16] [0,0,3,7,15,31,63,127,255,63,63,1599,3647,8191,16383,32767,65535]) (.j false [(18,.one (.i .i64))] .z .z)) .z) .z))) .z)) (.n (.n .z (.n .z .z)) (.n (.n .z (.n (.lp true 4 [(20,.one (.i .i64))] [] (.n (.n .z .z) (.n (.n (.n .z (.n .z (.n (.n .z (.j false [(23,.one (.i .u64))] (.d [] [0,1,2,3,4,5,6,7,8,9] [0,1,3,0,0,24,56,127,255,511]) .z)) (.n (.g [(3,2,[(161,.one .b)])]) (.n .z .z))))) .z) .z))) .z)) .z)))))))))))))=qxl k28 k29 k30 O6 k40 V5 k42 V4:=by kernel_rfl
theorem law22_SweepWeaks_sound:ai RO Tryz.prog 7 law22_SweepWeaks:=bJ (qxm _ _ _ _ _ _ _ _) (ae qr3 qr5 <| ae qr8 qsa <| ae qux quz <| ae qcl qcn <| ae qvc qve <| ae qv1 qv3 <| ae qw0 qw2 <| ae qxf qxh <| aE) Tryz.func7 (by kernel_rfl)
end
end Go.Abs.Tryz
