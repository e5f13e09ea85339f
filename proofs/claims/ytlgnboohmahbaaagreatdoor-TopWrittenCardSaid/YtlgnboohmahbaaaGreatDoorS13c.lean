/-
  What functions of the program do. No conditions.
-/
import Derived.Test.YtlgnboohmahbaaaGreatDoorS13a
import Derived.Test.YtlgnboohmahbaaaGreatDoorProg
import Derived.KernelRfl
set_option linter.unusedVariables false
set_option linter.unusedSimpArgs false
set_option linter.constructorNameAsVariable false
set_option maxRecDepth 100000
namespace Go.Abs.Tryz
open Go Go.Abs Go.Proofs
noncomputable section
variable {O:Type} {RO:O → Loc → (Nat → Option Obj) → Prop}
abbrev I6 {R:Type} (c:List AV) (i:Nat) (K:Int → Option R):Option R:=(AV.ag .i64 (c.getD i .u)).bind K
abbrev Is {R:Type} (c:List AV) (i:Nat) (K:SA × Nat → Option R):Option R:=(AV.aG (c.getD i .u)).bind K
abbrev J (n:Int):AV:=.i .i64 n
abbrev L (l:SA × Nat):AV:=.sl l.1 l.2
abbrev N:AV:=.sl .nil 0
def JW:List Bool → Type → Type
  |[],R=>Option R
  |true::ks,R=>Int → JW ks R
  |false::ks,R=>SA × Nat → JW ks R
def FK {R:Type}:(ks:List Bool) → List AV → JW ks R → Option R
  |[],_,K=>K
  |true::ks,.i .i64 n::cs,K=>FK ks cs (K n)
  |false::ks,.sl a n::cs,K=>FK ks cs (K (a,n))
  |_::_,_,_=>none
def Ul {R:Type} (c:List AV):(ks:List Bool) → Nat → JW ks R → Option R
  |[],_,K=>K
  |true::ks,i,K=>(AV.ag .i64 (c.getD i .u)).bind fun x=>Ul c ks (i+1) (K x)
  |false::ks,i,K=>(AV.aG (c.getD i .u)).bind fun x=>Ul c ks (i+1) (K x)
theorem M8 {R:Type} (c:List AV):∀ (ks:List Bool) (i:Nat) (K:JW ks R),Ul c ks i K=FK ks (c.drop i) K
  |[],_,_=>rfl
  |k::ks,i,K=>by
    have hd:c.drop i=if h:i<c.length then c[i]::c.drop (i+1) else []:=by
      split
      · rw [List.drop_eq_getElem_cons]
      · exact List.drop_of_length_le (by omega)
    have hg:c.getD i .u=if h:i<c.length then c[i] else .u:=by
      rw [List.getD_eq_getElem?_getD]
      split
      · rename_i h;rw [List.getElem?_eq_getElem h];rfl
      · rw [List.getElem?_eq_none (by omega)];rfl
    cases k<;>simp only [Ul,hd,hg]<;>split<;>try rfl
    all_goals
      generalize c[i]=v
      cases v<;>first |rfl |exact M8 c ks (i+1) _ |(rename_i kk _;cases kk<;>first |rfl |exact M8 c ks (i+1) _)
def Qb (h:AH O) (b:jJ):Option (List AV):=
  match b with
  |.n b=>match h.ai b with
    |some (.cells _ _ cs)=>some cs
    |_=>none
  |.f cs=>some cs
theorem abZ (h:AH O) (b:jJ) (o:Nat):h.ld b o=(Qb h b).bind fun cs=>cs[o]? := by
  unfold AH.ld Qb
  cases b with
  |n b=>simp only;cases h.ai b with
    |none=>rfl
    |some x=>cases x<;>rfl
  |f cs=>rfl
def JX {O R:Type} (h:AH O) (b:jJ):(ks:List Bool) → Nat → JW ks R → Option R
  |[],_,K=>K
  |true::ks,o,K=>(h.ld b o).bind fun w=>(AV.ag .i64 w).bind fun x=>JX h b ks (o+1) (K x)
  |false::ks,o,K=>(h.ld b o).bind fun w=>(AV.aG w).bind fun x=>JX h b ks (o+1) (K x)
theorem M9 {O R:Type} {h:AH O} {b:jJ} {cs:List AV} (hc:Qb h b=some cs):∀ (ks:List Bool) (o:Nat) (K:JW ks R),JX h b ks o K=FK ks (cs.drop o) K
  |[],_,_=>rfl
  |k::ks,o,K=>by
    have hl:h.ld b o=cs[o]? := by rw [abZ,hc];rfl
    by_cases h:o<cs.length
    · have hd:cs.drop o=cs[o]::cs.drop (o+1):=List.drop_eq_getElem_cons h
      rw [List.getElem?_eq_getElem h] at hl
      cases k<;>simp only [JX,hd,hl,Option.bind_some]
      all_goals
        generalize cs[o]=v
        cases v<;>first |rfl |exact M9 hc ks (o+1) _ |(rename_i kk _;cases kk<;>first |rfl |exact M9 hc ks (o+1) _)
    · have hd:cs.drop o=[]:=List.drop_of_length_le (by omega)
      rw [List.getElem?_eq_none (by omega)] at hl
      cases k<;>simp only [JX,hd,hl,Option.bind_none]<;>rfl
theorem ab0 {O R:Type} (h:AH O) (b:jJ) (k:Bool) (ks:List Bool) (o:Nat) (K:JW (k::ks) R):JX h b (k::ks) o K=(Qb h b).bind fun cs=>FK (k::ks) (cs.drop o) K:=by
  cases hc:Qb h b with
  |some cs=>rw [M9 hc];rfl
  |none=>
    have hl:h.ld b o=none:=by rw [abZ,hc];rfl
    cases k<;>simp only [JX,hl,Option.bind_none]
abbrev kU0:List Bool:=[true,true,true,true,true,true,true,true]
abbrev kW0:List Bool:=[true,true,true,true,true,true,true,true]
structure Words (O:Type) where
  U0:{R:Type} → List AV → (Int → Int → Int → Int → Int → Int → Int → Int → Option R) → Option R
  W0:{R:Type} → AH O → jJ → Nat → (Int → Int → Int → Int → Int → Int → Int → Int → Option R) → Option R
def jr:Words O where
  U0:=fun c K=>Ul c kU0 0 K
  W0:=fun h b o K=>JX h b kW0 o K
def js:Words O where
  U0:=fun c K=>FK kU0 c K
  W0:=fun h b o K=>(Qb h b).bind fun cs=>FK kW0 (cs.drop o) K
theorem se:(jr:Words O)=js:=by
  unfold jr js
  congr 1
  · funext R c K;exact M8 c kU0 0 K
  · funext R h b o K;exact ab0 h b true [true,true,true,true,true,true,true] o K
abbrev P0:List AV:=[J 0,J 0,J 0,J 0,J 0,J 0,J 0,J 0]
abbrev P1 (x0:Int) (x1:Int) (x2:Int) (x3:Int) (x4:Int) (x5:Int) (x6:Int) (x7:Int):List AV:=[J x0,J x1,J x2,J x3,J x4,J x5,J x6,J x7]
abbrev P2 (x0:Int) (x1:Int) (x2:Int) (x3:Int) (x4:Int) (x5:Int) (x6:Int) (x7:Int) (x8:Int) (x9:Int) (x10:Int) (x11:Int) (x12:Int) (x13:Int) (x14:Int) (x15:Int) (x16:Int) (x17:Int) (x18:Int) (x19:Int) (x20:Int) (x21:Int) (x22:Int) (x23:Int) (x24:Int) (x25:Int) (x26:Int) (x27:Int) (x28:Int) (x29:Int) (x30:Int) (x31:Int) (x32:Int) (x33:Int) (x34:Int) (x35:Int) (x36:Int) (x37:Int) (x38:Int) (x39:Int) (x40:Int) (x41:Int) (x42:Int) (x43:Int) (x44:Int) (x45:Int) (x46:Int) (x47:Int) (x48:Int) (x49:Int) (x50:Int) (x51:Int) (x52:Int) (x53:Int) (x54:Int) (x55:Int) (x56:Int) (x57:Int) (x58:Int) (x59:Int) (x60:Int) (x61:Int) (x62:Int) (x63:Int) (x64:Int):List AV:=[J x0,J x1,J x2,J x3,J x4,J x5,J x6,J x7,J x8,J x9,J x10,J x11,J x12,J x13,J x14,J x15,J x16,J x17,J x18,J x19,J x20,J x21,J x22,J x23,J x24,J x25,J x26,J x27,J x28,J x29,J x30,J x31,J x32,J x33,J x34,J x35,J x36,J x37,J x38,J x39,J x40,J x41,J x42,J x43,J x44,J x45,J x46,J x47,J x48,J x49,J x50,J x51,J x52,J x53,J x54,J x55,J x56,J x57,J x58,J x59,J x60,J x61,J x62,J x63,J x64]
abbrev P3:List AV:=[J 0,J 0,J 0,J 0,J 0,J 0,J 0,J 0,J 0,J 0,J 0,J 0,J 0,J 0,J 0,J 0,J 0,J 0,J 0,J 0,J 0,J 0,J 0,J 0,J 0,J 0,J 0,J 0,J 0,J 0,J 0,J 0,J 0,J 0,J 0,J 0,J 0,J 0,J 0,J 0,J 0,J 0,J 0,J 0,J 0,J 0,J 0,J 0,J 0,J 0,J 0,J 0,J 0,J 0,J 0,J 0,J 0,J 0,J 0,J 0,J 0,J 0,J 0,J 0,J 0,J 0,J 0,J 0,J 0,J 0,J 0,J 0,J 0,J 0,J 0,J 0,J 0,J 0,J 0,J 0,J 0,J 0,J 0,J 0,J 0,J 0,J 0,J 0,J 0,J 0,J 0,J 0,J 0,J 0,J 0,J 0,J 0,J 0,J 0,J 0,J 0,J 0,J 0,J 0,J 0,J 0,J 0,J 0,J 0,J 0,J 0,J 0,J 0,J 0,J 0,J 0,J 0,J 0,J 0,J 0,J 0,J 0,J 0,J 0,J 0,J 0,J 0,J 0,J 0,J 0,J 0,J 0,J 0,J 0,J 0,J 0,J 0,J 0,J 0,J 0,J 0,J 0,J 0,J 0,J 0,J 0,J 0,J 0,J 0,J 0,J 0,J 0,J 0,J 0,J 0,J 0,J 0,J 0,J 0,J 0,J 0,J 0,J 0,J 0,J 0,J 0,J 0,J 0,J 0,J 0,J 0,J 0,J 0,J 0,J 0,J 0,J 0,J 0,J 0,J 0,J 0,J 0,J 0,J 0,J 0,J 0,J 0,J 0,J 0,J 0,J 0,J 0,J 0,J 0,J 0,J 0,J 0,J 0,J 0,J 0,J 0,J 0,J 0,J 0,J 0,J 0,J 0,J 0,J 0,J 0,J 0,J 0,J 0,J 0,J 0,J 0,J 0,J 0,J 0,J 0,J 0,J 0,J 0,J 0,J 0]
theorem Cg:rM Tryz.prog 207 (rL (O:=O)):=Yw Tryz.func207 (by kernel_rfl) (by kernel_rfl) (by kernel_rfl) rfl
theorem Na:rM Tryz.prog 210 (yg (O:=O)):=Yx Tryz.func210 (by kernel_rfl) (by kernel_rfl) (by kernel_rfl) rfl
def zK:Sm O:=fun xs h=>
 bif Nat.beq xs.length 1 then
 (AV.asAgg 5 (xs.getD 0 .u)).bind fun c0=>
 I6 c0 0 fun n1=>I6 c0 1 fun n2=>I6 c0 2 fun n3=>I6 c0 3 fun n4=>I6 c0 4 fun n5=>let h6:=h.bump 1
 let h7:=h6.put h.next (.cells true 121 [J n1,J n2,J n3,J n4,J n5])
 (h7.ld (.n h.next) 0).bind fun w8=>
 (AV.ag .i64 w8).bind fun n9=>
 ((bif ((decide (n9<16)) == false) then
 (h7.ld (.n h.next) 0).bind fun wP=>
 (AV.ag .i64 wP).bind fun dZ=>
 some ([(.b (decide (dZ > 1048576)))],h7)
 else some ([(.b true)],h7)):Option (List AV × AH O)).bind fun fa=>
 (AV.aV (fa.1.getD 0 .u)).bind fun Zs=>
 (bif Zs then
 none
 else (fa.2.ld (.n h.next) 1).bind fun ou=>
 (AV.ag .i64 ou).bind fun gd=>
 ((bif ((decide (gd<0)) == false) then
 (fa.2.ld (.n h.next) 1).bind fun vl=>
 (AV.ag .i64 vl).bind fun iO=>
 (fa.2.ld (.n h.next) 0).bind fun Ce=>
 (AV.ag .i64 Ce).bind fun kN=>
 some ([(.b (decide (iO > kN)))],fa.2)
 else some ([(.b true)],fa.2)):Option (List AV × AH O)).bind fun kO=>
 (AV.aV (kO.1.getD 0 .u)).bind fun b21=>
 (bif b21 then
 none
 else (kO.2.ld (.n h.next) 4).bind fun IZ=>
 (AV.ag .i64 IZ).bind fun qo=>
 ((bif ((decide (qo ≥ 0)) == true) then
 (kO.2.ld (.n h.next) 4).bind fun OJ=>
 (AV.ag .i64 OJ).bind fun wj=>
 some ([(.b (decide (wj ≤ 16)))],kO.2)
 else some ([(.b false)],kO.2)):Option (List AV × AH O)).bind fun Ll=>
 (AV.aV (Ll.1.getD 0 .u)).bind fun b27=>
 some ((.b b27),Ll.2)))
 else none
def vq:Sm O:=zK
theorem ua:aa Tryz.prog 108:=Tryz.call108
theorem Hb:run (O:=O) Tryz.prog [] Tryz.f108 (.n .z (.n (.n (.n (.g [(3,3,[(11,.one .b)])]) (.n .x (.n (.g [(3,5,[(22,.one .b)])]) (.n .x .z)))) .z) (.n (.g [(3,3,[(30,.one .b)])]) .z)))=zK:=by kernel_rfl
theorem qt:ae RO Tryz.prog 108 vq:=bt Hb (aA) Tryz.func108 (by kernel_rfl)
def Ci (Hc:Sm O):Sm O:=fun xs h=>
 bif Nat.beq xs.length 1 then
 (AV.asAgg 5 (xs.getD 0 .u)).bind fun c0=>
 I6 c0 0 fun n1=>I6 c0 1 fun n2=>I6 c0 2 fun n3=>I6 c0 3 fun n4=>I6 c0 4 fun n5=>let h6:=h.bump 1
 let h7:=h6.put h.next (.cells true 121 [J n1,J n2,J n3,J n4,J n5])
 (h7.ld (.n h.next) 0).bind fun w8=>
 (AV.ag .i64 w8).bind fun n9=>
 (h7.ld (.n h.next) 1).bind fun wP=>
 (AV.ag .i64 wP).bind fun dZ=>
 (h7.ld (.n h.next) 2).bind fun tw=>
 (AV.ag .i64 tw).bind fun fg=>
 (h7.ld (.n h.next) 3).bind fun ou=>
 (AV.ag .i64 ou).bind fun gd=>
 (h7.ld (.n h.next) 4).bind fun vl=>
 (AV.ag .i64 vl).bind fun iO=>
 (Hc [(.agg [J n9,J dZ,J fg,J gd,J iO])] h7).bind fun gb=>
 (AV.aV gb.1).bind fun b19=>
 (bif (!b19) then
 none
 else (gb.2.ld (.n h.next) 2).bind fun DL=>
 (AV.ag .i64 DL).bind fun vr=>
 ((bif ((decide (vr<2)) == false) then
 (gb.2.ld (.n h.next) 2).bind fun IZ=>
 (AV.ag .i64 IZ).bind fun qo=>
 some ([(.b (decide (qo > 64)))],gb.2)
 else some ([(.b true)],gb.2)):Option (List AV × AH O)).bind fun tq=>
 (AV.aV (tq.1.getD 0 .u)).bind fun b25=>
 (bif b25 then
 none
 else (tq.2.ld (.n h.next) 3).bind fun Ru=>
 (AV.ag .i64 Ru).bind fun Ai=>
 ((bif ((decide (Ai<1)) == false) then
 (tq.2.ld (.n h.next) 3).bind fun Rv=>
 (AV.ag .i64 Rv).bind fun Lm=>
 some ([(.b (decide (Lm > 32)))],tq.2)
 else some ([(.b true)],tq.2)):Option (List AV × AH O)).bind fun DA=>
 (AV.aV (DA.1.getD 0 .u)).bind fun b31=>
 (bif b31 then
 none
 else some (J 0,DA.2))))
 else none
def yN:Sm O:=Ci vq
theorem wX:aa Tryz.prog 80:=Tryz.call80
theorem I0 (Hc:Sm O):run (O:=O) Tryz.prog [(108,Hc)] Tryz.f80 (.n .z (.n (.n (.n .z (.n .x (.n (.g [(3,3,[(15,.one .b)])]) (.n .x (.n (.g [(3,3,[(24,.one .b)])]) (.n .x .z)))))) .z) .z))=Ci Hc:=by kernel_rfl
theorem sf:ae RO Tryz.prog 80 yN:=bt (I0 _) (af ua qt <| aA) Tryz.func80 (by kernel_rfl)
def EC (XS:Sm O):Sm O:=fun xs h=>
 bif Nat.beq xs.length 1 then
 (AV.aG (xs.getD 0 .u)).bind fun l0=>
 let h1:=h.bump 1
 let h2:=h1.put h.next (.cells true 121 [J 0,J 0,J 0,J 0,J 0])
 (bif (((l0.2:Int):Int) != 5) then
 none
 else let h3:=h2.bump 1
 (bif (decide ((0:Int)<(l0.2:Int))) then
 (SA.ref l0.1).bind fun q4=>
 (h3.ld q4.1 q4.2).bind fun w5=>
 (AV.ag .i64 w5).bind fun n6=>
 (bif (decide ((1:Int)<(l0.2:Int))) then
 (SA.ref l0.1).bind fun q7=>
 (h3.ld q7.1 (q7.2+1)).bind fun w8=>
 (AV.ag .i64 w8).bind fun n9=>
 (bif (decide ((2:Int)<(l0.2:Int))) then
 (SA.ref l0.1).bind fun nZ=>
 (h3.ld nZ.1 (nZ.2+2)).bind fun nm=>
 (AV.ag .i64 nm).bind fun dy=>
 (bif (decide ((3:Int)<(l0.2:Int))) then
 (SA.ref l0.1).bind fun Bu=>
 (h3.ld Bu.1 (Bu.2+3)).bind fun ou=>
 (AV.ag .i64 ou).bind fun gd=>
 (bif (decide ((4:Int)<(l0.2:Int))) then
 (SA.ref l0.1).bind fun Ug=>
 (h3.ld Ug.1 (Ug.2+4)).bind fun vk=>
 (AV.ag .i64 vk).bind fun jX=>
 let Oc:=h3.put h2.next (.cells true 121 [J 0,J 0,J 0,J 0,J 0])
 (Oc.st (.n h2.next) 0 [J n6,J n9,J dy,J gd,J jX]).bind fun kQ=>
 (kQ.ld (.n h2.next) 0).bind fun yF=>
 (AV.ag .i64 yF).bind fun fC=>
 (kQ.ld (.n h2.next) 1).bind fun I1=>
 (AV.ag .i64 I1).bind fun rZ=>
 (kQ.ld (.n h2.next) 2).bind fun FL=>
 (AV.ag .i64 FL).bind fun ji=>
 (kQ.ld (.n h2.next) 3).bind fun yM=>
 (AV.ag .i64 yM).bind fun jo=>
 (kQ.ld (.n h2.next) 4).bind fun yH=>
 (AV.ag .i64 yH).bind fun ot=>
 (XS [(.agg [J fC,J rZ,J ji,J jo,J ot])] kQ).bind fun Lp=>
 (AV.ag .i64 Lp.1).bind fun lJ=>
 (bif ((lJ:Int) != 0) then
 none
 else (Lp.2.ld (.n h2.next) 0).bind fun FE=>
 (AV.ag .i64 FE).bind fun wg=>
 (Lp.2.ld (.n h2.next) 1).bind fun Rw=>
 (AV.ag .i64 Rw).bind fun GU=>
 (Lp.2.ld (.n h2.next) 2).bind fun M1=>
 (AV.ag .i64 M1).bind fun GV=>
 (Lp.2.ld (.n h2.next) 3).bind fun Zn=>
 (AV.ag .i64 Zn).bind fun n40=>
 (Lp.2.ld (.n h2.next) 4).bind fun ZC=>
 (AV.ag .i64 ZC).bind fun Oe=>
 (Lp.2.st (.n h.next) 0 [J wg,J GU,J GV,J n40,J Oe]).bind fun h43=>
 (h43.ld (.n h.next) 0).bind fun ZD=>
 (AV.ag .i64 ZD).bind fun Ov=>
 (h43.ld (.n h.next) 1).bind fun WJ=>
 (AV.ag .i64 WJ).bind fun Rx=>
 (h43.ld (.n h.next) 2).bind fun ZE=>
 (AV.ag .i64 ZE).bind fun Ry=>
 (h43.ld (.n h.next) 3).bind fun w50=>
 (AV.ag .i64 w50).bind fun WO=>
 (h43.ld (.n h.next) 4).bind fun w52=>
 (AV.ag .i64 w52).bind fun T'=>
 some ((.aS [(.agg [J Ov,J Rx,J Ry,J WO,J T']),J 0]),h43))
 else none)
 else none)
 else none)
 else none)
 else none))
 else none
def JY:Sm O:=EC yN
theorem KS:aa Tryz.prog 63:=Tryz.call63
theorem KT (XS:Sm O):run (O:=O) Tryz.prog [(80,XS)] Tryz.f63 (.n .z (.n (.n .z (.n .x .z)) (.n (.d [] [0,1,2,3,4,5,6,7,8,9,10,11,12,13,14,15,16,17] [0,1,3,0,8,24,0,64,192,0,512,1536,0,4096,12288,32767,0,131071]) (.n (.n .z (.n .z (.n .x .z))) .z))))=EC XS:=by kernel_rfl
theorem He:ae RO Tryz.prog 63 JY:=bt (KT _) (af wX sf <| aA) Tryz.func63 (by kernel_rfl)
def JZ:Sm O:=fun xs h=>
 bif Nat.beq xs.length 0 then
 let h0:=h.bump 1
 let h1:=h0.put h.next (.cells true 324 [(.i .u64 0),(.i .u64 0),(.i .u64 0),(.i .u64 0),J 0,J 0])
 some ((.p (some ((.n h.next),0))),h1)
 else none
def Qc:Sm O:=JZ
theorem OK:aa Tryz.prog 150:=Tryz.call150
theorem OL:run (O:=O) Tryz.prog [] Tryz.f150 (.n .z .z)=JZ:=by kernel_rfl
theorem KU:ae RO Tryz.prog 150 Qc:=bt OL (aA) Tryz.func150 (by kernel_rfl)
def Qd (aeY:Sm O):Sm O:=fun xs h=>
 bif Nat.beq xs.length 0 then
 let h0:=h.bump 1
 (aeY [] h0).bind fun r1=>
 (AV.aT r1.1).bind fun p2=>
 let h3:=r1.2.put h.next (.cells true 255 [(.p p2),N,J 0,J 0])
 some ((.p (some ((.n h.next),0))),h3)
 else none
def XT:Sm O:=Qd Qc
theorem Um:aa Tryz.prog 109:=Tryz.call109
theorem Un (aeY:Sm O):run (O:=O) Tryz.prog [(150,aeY)] Tryz.f109 (.n .z .z)=Qd aeY:=by kernel_rfl
theorem OM:ae RO Tryz.prog 109 XT:=bt (Un _) (af OK KU <| aA) Tryz.func109 (by kernel_rfl)
def qu:Sm O:=fun xs h=>
 bif Nat.beq xs.length 2 then
 (AV.aT (xs.getD 0 .u)).bind fun p0=>
 (AV.ag .i64 (xs.getD 1 .u)).bind fun n1=>
 Option.bind p0 fun q2=>
 (h.ld q2.1 q2.2).bind fun w3=>
 (AV.ag .i64 w3).bind fun n4=>
 Option.bind p0 fun q5=>
 (h.st q5.1 q5.2 [(.i .i64 (IntKind.i64.wrap (n4+n1)))]).bind fun h6=>
 Option.bind p0 fun q7=>
 (h6.ld q7.1 (q7.2+1)).bind fun w8=>
 (AV.ag .i64 w8).bind fun n9=>
 Option.bind p0 fun nZ=>
 (h6.ld nZ.1 nZ.2).bind fun nm=>
 (AV.ag .i64 nm).bind fun dy=>
 Option.bind p0 fun Bu=>
 (h6.st Bu.1 (Bu.2+1) [(.i .i64 (if dy > n9 then dy else n9))]).bind fun tu=>
 some ((.aS []),tu)
 else none
def ub:Sm O:=qu
theorem Ap:aa Tryz.prog 255:=Tryz.call255
theorem Aq:run (O:=O) Tryz.prog [] Tryz.f255 (.n .z (.d [] [0,1,2,3,4,5,6,7,8,9,10,11,12] [0,0,2,6,14,0,32,96,224,510,1023,2047,4095]))=qu:=by kernel_rfl
theorem wY:ae RO Tryz.prog 255 ub:=bt Aq (aA) Tryz.func255 (by kernel_rfl)
def qv (aeZ:Sm O):Sm O:=fun xs h=>
 bif Nat.beq xs.length 2 then
 (AV.aT (xs.getD 0 .u)).bind fun p0=>
 (AV.ag .i64 (xs.getD 1 .u)).bind fun n1=>
 ((bif ((Option.isNone p0) == false) then
 some ([(.b (decide (n1<0)))],h)
 else some ([(.b true)],h)):Option (List AV × AH O)).bind fun r2=>
 (AV.aV (r2.1.getD 0 .u)).bind fun b3=>
 (bif b3 then
 none
 else Option.bind p0 fun q4=>
 (r2.2.ld q4.1 (q4.2+4)).bind fun w5=>
 (AV.ag .i64 w5).bind fun n6=>
 let c7:Bool:=(decide (n1 > (IntKind.i64.wrap (281474976710656 - n6))))
 (bif c7 then
 none
 else Option.bind p0 fun q8=>
 (aeZ [(.p (some (q8.1,(q8.2+4)))),J n1] r2.2).bind fun r9=>
 (AV.aE 0 r9.1).bind fun Gl=>
 some (J 0,r9.2)))
 else none
def my:Sm O:=qv ub
theorem nw:aa Tryz.prog 204:=Tryz.call204
theorem Ar (aeZ:Sm O):run (O:=O) Tryz.prog [(255,aeZ)] Tryz.f204 (.n .z (.n (.n (.n (.g [(2,2,[(11,.one .b)])]) (.n .x (.n .z (.n .x .z)))) .z) (.n .z .z)))=qv aeZ:=by kernel_rfl
theorem lx:ae RO Tryz.prog 204 my:=bt (Ar _) (af Ap wY <| aA) Tryz.func204 (by kernel_rfl)
def I2 (p0:Option (jJ × Nat)):List AV × AH O → Option ((List AV × AH O) ⊕ (List AV × AH O)):=(fun r8=>
 (AV.ag .i64 (r8.1.getD 0 .u)).bind fun n9=>
 Option.bind p0 fun nZ=>
 (r8.2.ld nZ.1 (nZ.2+1)).bind fun nm=>
 (AV.aG nm).bind fun l12=>
 ((bif ((decide (n9<(l12.2:Int))) == true) then
 Option.bind p0 fun Bu=>
 (r8.2.ld Bu.1 (Bu.2+1)).bind fun ou=>
 (AV.aG ou).bind fun Rh=>
 (bif ((decide ((0:Int) ≤ n9)) && (decide (n9<(Rh.2:Int)))) then
 (SA.ref Rh.1).bind fun Ug=>
 (r8.2.ld Ug.1 ((Ug.2+(n9.toNat*2))+1)).bind fun vk=>
 (AV.aV vk).bind fun b18=>
 some ([(.b b18)],r8.2)
 else none)
 else some ([(.b false)],r8.2)):Option (List AV × AH O)).bind fun r19=>
 (AV.aV (r19.1.getD 0 .u)).bind fun b20=>
 (bif b20 then
 none
 else some (Sum.inr ([J n9],r19.2))))
def zL (Rz:Sm O):Sm O:=fun xs h=>
 bif Nat.beq xs.length 2 then
 (AV.aT (xs.getD 0 .u)).bind fun p0=>
 (AV.ag .i64 (xs.getD 1 .u)).bind fun n1=>
 (bif (decide (n1<0)) then
 none
 else (bif (decide (n1 > 4194304)) then
 none
 else Option.bind p0 fun q2=>
 (h.ld q2.1 (q2.2+3)).bind fun w3=>
 (AV.ag .i64 w3).bind fun n4=>
 (bif (decide (n4 ≥ 262144)) then
 none
 else Option.bind p0 fun q5=>
 (h.ld q5.1 (q5.2+2)).bind fun w6=>
 (AV.ag .i64 w6).bind fun n7=>
 (aQ (S:=List AV × AH O) (T:=List AV × AH O) (I2 p0) ([J n7],h)).bind fun Bt=>
 (AV.ag .i64 (Bt.1.getD 0 .u)).bind fun fC=>
 Option.bind p0 fun KV=>
 (Bt.2.ld KV.1 (KV.2+1)).bind fun OJ=>
 (AV.aG OJ).bind fun l25=>
 (bif ((fC:Int) == (l25.2:Int)) then
 let h26:=Bt.2.bump 2
 Option.bind p0 fun q27=>
 (h26.ld q27.1 (q27.2+1)).bind fun Rv=>
 (AV.aG Rv).bind fun l29=>
 let h30:=h26.put Bt.2.next (.cells true 326 [N,(.b false)])
 (h30.bC (.loc (.n Bt.2.next) 0 2) 1 2).bind fun am0=>
 (bif (Nat.ble ((l29.2+1)*33) 35184372088832) then
 (h30.bP (Bt.2.next+1) 326 2 l29.1 l29.2 1 am0).bind fun r32=>
 (AV.aG r32.1).bind fun l33=>
 Option.bind p0 fun q34=>
 (r32.2.st q34.1 (q34.2+1) [L l33]).bind fun wO=>
 let h36:=wO.bump 1
 Option.bind p0 fun q37=>
 (h36.ld q37.1 (q37.2+1)).bind fun OG=>
 (AV.aG OG).bind fun Zx=>
 (bif ((((decide ((0:Int) ≤ n1)) && (decide (n1 ≤ n1))) && (decide ((n1*8) ≤ 140737488355328))) && (decide (n1 ≤ 140737488355328))) then
 let wS:=h36.put wO.next (.cells true 63 ((List.replicate n1.toNat [(.i .u64 0)]).flatten))
 (bif ((decide ((0:Int) ≤ fC)) && (decide (fC<(Zx.2:Int)))) then
 (SA.ref Zx.1).bind fun q41=>
 (wS.st q41.1 (q41.2+(fC.toNat*2)) [(.sl (.loc (.n wO.next) 0 1) n1.toNat),(.b true)]).bind fun GW=>
 Option.bind p0 fun Gn=>
 (GW.ld Gn.1 (Gn.2+3)).bind fun ZD=>
 (AV.ag .i64 ZD).bind fun Ov=>
 Option.bind p0 fun q46=>
 (GW.st q46.1 (q46.2+2) [(.i .i64 (IntKind.i64.wrap (fC+1)))]).bind fun h47=>
 Option.bind p0 fun q48=>
 (h47.st q48.1 (q48.2+3) [(.i .i64 (IntKind.i64.wrap (Ov+1)))]).bind fun h49=>
 Option.bind p0 fun q50=>
 (h49.ld q50.1 q50.2).bind fun w51=>
 (AV.aT w51).bind fun p52=>
 (Rz [(.p p52),J n1] h49).bind fun JV=>
 (AV.ag .i64 JV.1).bind fun SF=>
 some ((.aS [J fC,J 0]),JV.2)
 else none)
 else none)
 else none)
 else none))))
 else none
def kc:Sm O:=zL my
theorem iv:aa Tryz.prog 151:=Tryz.call151
theorem Hf (Rz:Sm O):run (O:=O) Tryz.prog [(204,Rz)] Tryz.f151 (.n .z (.n (.n (.n .z (.n .x (.n .z (.n .x (.n .z (.n .x .z)))))) .z) (.n .z (.n (.n (.lp false 1 [(6,.one (.i .i64))] [(6,.one (.i .i64))] (.n (.n (.g [(7,8,[(39,.one .b)])]) (.n .x .z)) .z)) .z) (.n (.n .z (.n .z .x)) (.n (.d [] [0,1,2,3,4,5,6,7,8,9] [0,1,3,7,0,0,32,96,255,511]) (.n .z (.n .z .z))))))))=zL Rz:=by kernel_rfl
theorem fE:ae RO Tryz.prog 151 kc:=bt (Hf _) (af nw lx <| aA) Tryz.func151 (by kernel_rfl)
def Nb (yO:Sm O):Sm O:=fun xs h=>
 bif Nat.beq xs.length 2 then
 (AV.aT (xs.getD 0 .u)).bind fun p0=>
 (AV.ag .i64 (xs.getD 1 .u)).bind fun n1=>
 (bif (Option.isNone p0) then
 none
 else (yO [(.p p0),J n1] h).bind fun r2=>
 (AV.aE 2 r2.1).bind fun c3=>
 I6 c3 0 fun n4=>I6 c3 1 fun n5=>(bif ((n5:Int) != 0) then
 none
 else let h6:=r2.2.bump 1
 let h7:=h6.put r2.2.next (.cells true 275 [(.p p0),J n4,J 0,J 0,J 0,(.b false)])
 some ((.aS [(.p (some ((.n r2.2.next),0))),J 0]),h7)))
 else none
def Uo:Sm O:=Nb kc
theorem RA:aa Tryz.prog 110:=Tryz.call110
theorem RB (yO:Sm O):run (O:=O) Tryz.prog [(151,yO)] Tryz.f110 (.n .z (.n (.n .z (.n .x .z)) (.n .z (.n (.n .z (.n .x .z)) .z))))=Nb yO:=by kernel_rfl
theorem Nc:ae RO Tryz.prog 110 Uo:=bt (RB _) (af iv fE <| aA) Tryz.func110 (by kernel_rfl)
def Nd (yO:Sm O):Sm O:=fun xs h=>
 bif Nat.beq xs.length 2 then
 (AV.aT (xs.getD 0 .u)).bind fun p0=>
 (AV.ag .i64 (xs.getD 1 .u)).bind fun n1=>
 ((bif ((Option.isNone p0) == false) then
 some ([(.b (decide (n1<1)))],h)
 else some ([(.b true)],h)):Option (List AV × AH O)).bind fun r2=>
 (AV.aV (r2.1.getD 0 .u)).bind fun b3=>
 ((bif (b3 == false) then
 some ([(.b (decide (n1 > 60)))],r2.2)
 else some ([(.b true)],r2.2)):Option (List AV × AH O)).bind fun r4=>
 (AV.aV (r4.1.getD 0 .u)).bind fun b5=>
 (bif b5 then
 none
 else (yO [(.p p0),J 0] r4.2).bind fun r6=>
 (AV.aE 2 r6.1).bind fun c7=>
 I6 c7 0 fun n8=>I6 c7 1 fun n9=>(bif ((n9:Int) != 0) then
 none
 else let gS:=r6.2.bump 1
 let iM:=gS.put r6.2.next (.cells true 328 [(.p p0),J n8,J n1,J 0,J 0,J 0,J 0])
 some ((.aS [(.p (some ((.n r6.2.next),0))),J 0]),iM)))
 else none
def Nf:Sm O:=Nd kc
theorem Hg:aa Tryz.prog 152:=Tryz.call152
theorem RC (yO:Sm O):run (O:=O) Tryz.prog [(151,yO)] Tryz.f152 (.n .z (.n (.n (.g [(2,2,[(13,.one .b)]),(6,2,[(17,.one .b)])]) (.n .x .z)) (.n .z (.n (.n .z (.n .x .z)) .z))))=Nd yO:=by kernel_rfl
theorem Cj:ae RO Tryz.prog 152 Nf:=bt (RC _) (af iv fE <| aA) Tryz.func152 (by kernel_rfl)
def J0 (RD:Sm O):Sm O:=fun xs h=>
 bif Nat.beq xs.length 1 then
 (AV.aT (xs.getD 0 .u)).bind fun p0=>
 (RD [(.p p0),J 5] h).bind fun r1=>
 (AV.aE 2 r1.1).bind fun c2=>
 (AV.aT (c2.getD 0 .u)).bind fun p3=>
 I6 c2 1 fun n4=>(bif ((n4:Int) != 0) then
 none
 else let h5:=r1.2.bump 1
 let h6:=h5.put r1.2.next (.cells true 282 [(.p p0),(.p p3),J 0,J 0,J 0,J 0,J 0,J 0,(.i .u64 0),J 0,J 0])
 some ((.aS [(.p (some ((.n r1.2.next),0))),J 0]),h6))
 else none
def Qe:Sm O:=J0 Nf
theorem ON:aa Tryz.prog 111:=Tryz.call111
theorem OO (RD:Sm O):run (O:=O) Tryz.prog [(152,RD)] Tryz.f111 (.n .z (.n .z (.n (.n .z (.n .x .z)) .z)))=J0 RD:=by kernel_rfl
theorem KW:ae RO Tryz.prog 111 Qe:=bt (OO _) (af Hg Cj <| aA) Tryz.func111 (by kernel_rfl)
def J1 (ae1 ae2 ae3:Sm O):Sm O:=fun xs h=>
 bif Nat.beq xs.length 2 then
 (AV.ag .i64 (xs.getD 0 .u)).bind fun n0=>
 (AV.ag .i64 (xs.getD 1 .u)).bind fun n1=>
 ((bif ((decide (n0<2)) == false) then
 some ([(.b (decide (n0 > 64)))],h)
 else some ([(.b true)],h)):Option (List AV × AH O)).bind fun r2=>
 (AV.aV (r2.1.getD 0 .u)).bind fun b3=>
 (bif b3 then
 none
 else (ae1 [] r2.2).bind fun r4=>
 (AV.aT r4.1).bind fun p5=>
 (ae2 [(.p p5),J n1] r4.2).bind fun r6=>
 (AV.aE 2 r6.1).bind fun c7=>
 (AV.aT (c7.getD 0 .u)).bind fun p8=>
 I6 c7 1 fun n9=>(bif ((n9:Int) != 0) then
 none
 else (ae3 [(.p p5)] r6.2).bind fun dw=>
 (AV.aE 2 dw.1).bind fun WD=>
 (AV.aT (WD.getD 0 .u)).bind fun p12=>
 I6 WD 1 fun fg=>(bif ((fg:Int) != 0) then
 none
 else let tu:=dw.2.bump 1
 let oY:=tu.put dw.2.next (.cells true 220 [(.p p5),(.p p8),(.p p12),J n0])
 some ((.aS [(.p (some ((.n dw.2.next),0))),J 0]),oY))))
 else none
def Qf:Sm O:=J1 XT Uo Qe
theorem OP:aa Tryz.prog 81:=Tryz.call81
theorem OQ (ae1 ae2 ae3:Sm O):run (O:=O) Tryz.prog [(109,ae1),(110,ae2),(111,ae3)] Tryz.f81 (.n .z (.n (.n (.g [(2,2,[(15,.one .b)])]) (.n .x .z)) (.n .z (.n .z (.n (.n .z (.n .x .z)) (.n .z (.n (.n .z (.n .x .z)) .z)))))))=J1 ae1 ae2 ae3:=by kernel_rfl
theorem KX:ae RO Tryz.prog 81 Qf:=bt (OQ _ _ _) (af Um OM <| af RA Nc <| af ON KW <| aA) Tryz.func81 (by kernel_rfl)
def si:Sm O:=fun xs h=>
 bif Nat.beq xs.length 1 then
 (AV.aT (xs.getD 0 .u)).bind fun p0=>
 Option.bind p0 fun q1=>
 (h.ld q1.1 q1.2).bind fun w2=>
 (AV.aT w2).bind fun p3=>
 some ((.p p3),h)
 else none
def eg:Sm O:=si
theorem iU:aa Tryz.prog 83:=Tryz.call83
theorem Ck:run (O:=O) Tryz.prog [] Tryz.f83 (.n .z .z)=si:=by kernel_rfl
theorem gq:ae RO Tryz.prog 83 eg:=bt Ck (aA) Tryz.func83 (by kernel_rfl)
def Hh (yO:Sm O):Sm O:=fun xs h=>
 bif Nat.beq xs.length 1 then
 (AV.aT (xs.getD 0 .u)).bind fun p0=>
 (bif (Option.isNone p0) then
 none
 else (yO [(.p p0),J 0] h).bind fun r1=>
 (AV.aE 2 r1.1).bind fun c2=>
 I6 c2 0 fun n3=>I6 c2 1 fun n4=>(bif ((n4:Int) != 0) then
 none
 else let h5:=r1.2.bump 1
 let h6:=h5.put r1.2.next (.cells true 286 [(.p p0),J n3,J 0,J 0,J 0,J 0,J 0])
 some ((.aS [(.p (some ((.n r1.2.next),0))),J 0]),h6)))
 else none
def Ng:Sm O:=Hh kc
theorem Nh:aa Tryz.prog 112:=Tryz.call112
theorem Ni (yO:Sm O):run (O:=O) Tryz.prog [(151,yO)] Tryz.f112 (.n .z (.n (.n .z (.n .x .z)) (.n .z (.n (.n .z (.n .x .z)) .z))))=Hh yO:=by kernel_rfl
theorem I3:ae RO Tryz.prog 112 Ng:=bt (Ni _) (af iv fE <| aA) Tryz.func112 (by kernel_rfl)
def ED (RD:Sm O):Sm O:=fun xs h=>
 bif Nat.beq xs.length 1 then
 (AV.aT (xs.getD 0 .u)).bind fun p0=>
 (RD [(.p p0),J 3] h).bind fun r1=>
 (AV.aE 2 r1.1).bind fun c2=>
 (AV.aT (c2.getD 0 .u)).bind fun p3=>
 I6 c2 1 fun n4=>(bif ((n4:Int) != 0) then
 none
 else let h5:=r1.2.bump 1
 let h6:=h5.put r1.2.next (.cells true 288 [(.p p3),J 0,J 0,J 0])
 some ((.aS [(.p (some ((.n r1.2.next),0))),J 0]),h6))
 else none
def J2:Sm O:=ED Nf
theorem KY:aa Tryz.prog 113:=Tryz.call113
theorem KZ (RD:Sm O):run (O:=O) Tryz.prog [(152,RD)] Tryz.f113 (.n .z (.n .z (.n (.n .z (.n .x .z)) .z)))=ED RD:=by kernel_rfl
theorem Hi:ae RO Tryz.prog 113 J2:=bt (KZ _) (af Hg Cj <| aA) Tryz.func113 (by kernel_rfl)
def J3 (ae4 ab3:Sm O):Sm O:=fun xs h=>
 bif Nat.beq xs.length 1 then
 (AV.aT (xs.getD 0 .u)).bind fun p0=>
 (ae4 [(.p p0)] h).bind fun r1=>
 (AV.aE 2 r1.1).bind fun c2=>
 (AV.aT (c2.getD 0 .u)).bind fun p3=>
 I6 c2 1 fun n4=>(bif ((n4:Int) != 0) then
 none
 else (ab3 [(.p p0)] r1.2).bind fun r5=>
 (AV.aE 2 r5.1).bind fun c6=>
 (AV.aT (c6.getD 0 .u)).bind fun p7=>
 I6 c6 1 fun n8=>(bif ((n8:Int) != 0) then
 none
 else (ab3 [(.p p0)] r5.2).bind fun r9=>
 (AV.aE 2 r9.1).bind fun Gl=>
 (AV.aT (Gl.getD 0 .u)).bind fun p11=>
 I6 Gl 1 fun dy=>(bif ((dy:Int) != 0) then
 none
 else let nk:=r9.2.bump 1
 let tu:=nk.put r9.2.next (.cells true 228 [(.p p3),(.p p7),(.p p11)])
 some ((.aS [(.p (some ((.n r9.2.next),0))),J 0]),tu))))
 else none
def Qg:Sm O:=J3 Ng J2
theorem OR:aa Tryz.prog 82:=Tryz.call82
theorem OS (ae4 ab3:Sm O):run (O:=O) Tryz.prog [(112,ae4),(113,ab3)] Tryz.f82 (.n .z (.n .z (.n (.n .z (.n .x .z)) (.n .z (.n (.n .z (.n .x .z)) (.n .z (.n (.n .z (.n .x .z)) .z)))))))=J3 ae4 ab3:=by kernel_rfl
theorem K0:ae RO Tryz.prog 82 Qg:=bt (OS _ _) (af Nh I3 <| af KY Hi <| aA) Tryz.func82 (by kernel_rfl)
def zM:Sm O:=fun xs h=>
 bif Nat.beq xs.length 1 then
 (AV.asAgg 5 (xs.getD 0 .u)).bind fun c0=>
 I6 c0 0 fun n1=>I6 c0 1 fun n2=>I6 c0 2 fun n3=>I6 c0 3 fun n4=>I6 c0 4 fun n5=>let h6:=h.bump 2
 let h7:=h6.put h.next (.cells true 121 [J n1,J n2,J n3,J n4,J n5])
 let h8:=h7.put (h.next+1) (.cells true 166 [J 0,J 0])
 (h8.ld (.n h.next) 1).bind fun w9=>
 (AV.ag .i64 w9).bind fun cQ=>
 (h8.st (.n (h.next+1)) 0 [J cQ,J 0]).bind fun iM=>
 (iM.ld (.n (h.next+1)) 0).bind fun tw=>
 (AV.ag .i64 tw).bind fun fg=>
 (iM.ld (.n (h.next+1)) 1).bind fun ou=>
 (AV.ag .i64 ou).bind fun gd=>
 some ((.agg [J fg,J gd]),iM)
 else none
def EG:Sm O:=zM
theorem Hj:aa Tryz.prog 114:=Tryz.call114
theorem Hk:run (O:=O) Tryz.prog [] Tryz.f114 (.n .z .z)=zM:=by kernel_rfl
theorem DN:ae RO Tryz.prog 114 EG:=bt Hk (aA) Tryz.func114 (by kernel_rfl)
def FM (w:Words O) (Hc RE:Sm O):Sm O:=fun xs h=>
 bif Nat.beq xs.length 1 then
 (AV.asAgg 5 (xs.getD 0 .u)).bind fun c0=>
 I6 c0 0 fun n1=>I6 c0 1 fun n2=>I6 c0 2 fun n3=>I6 c0 3 fun n4=>I6 c0 4 fun n5=>let h6:=h.bump 2
 let h7:=h6.put h.next (.cells true 121 [J n1,J n2,J n3,J n4,J n5])
 let h8:=h7.put (h.next+1) (.cells true 168 P0)
 (h8.ld (.n h.next) 0).bind fun w9=>
 (AV.ag .i64 w9).bind fun cQ=>
 (h8.ld (.n h.next) 1).bind fun nm=>
 (AV.ag .i64 nm).bind fun dy=>
 (h8.ld (.n h.next) 2).bind fun tz=>
 (AV.ag .i64 tz).bind fun fW=>
 (h8.ld (.n h.next) 3).bind fun tx=>
 (AV.ag .i64 tx).bind fun jN=>
 (h8.ld (.n h.next) 4).bind fun vk=>
 (AV.ag .i64 vk).bind fun jX=>
 (Hc [(.agg [J cQ,J dy,J fW,J jN,J jX])] h8).bind fun r19=>
 (AV.aV r19.1).bind fun b20=>
 (bif (!b20) then
 none
 else (r19.2.ld (.n h.next) 0).bind fun yF=>
 (AV.ag .i64 yF).bind fun fC=>
 (r19.2.ld (.n h.next) 1).bind fun I1=>
 (AV.ag .i64 I1).bind fun rZ=>
 (r19.2.ld (.n h.next) 2).bind fun FL=>
 (AV.ag .i64 FL).bind fun ji=>
 (r19.2.ld (.n h.next) 3).bind fun yM=>
 (AV.ag .i64 yM).bind fun jo=>
 (r19.2.ld (.n h.next) 4).bind fun yH=>
 (AV.ag .i64 yH).bind fun ot=>
 (r19.2.ld (.n h.next) 0).bind fun Cl=>
 (AV.ag .i64 Cl).bind fun lJ=>
 (r19.2.ld (.n h.next) 1).bind fun FE=>
 (AV.ag .i64 FE).bind fun wg=>
 (r19.2.ld (.n h.next) 2).bind fun Rw=>
 (AV.ag .i64 Rw).bind fun GU=>
 (r19.2.ld (.n h.next) 3).bind fun M1=>
 (AV.ag .i64 M1).bind fun GV=>
 (r19.2.ld (.n h.next) 4).bind fun Zn=>
 (AV.ag .i64 Zn).bind fun n40=>
 (RE [(.agg [J lJ,J wg,J GU,J GV,J n40])] r19.2).bind fun Of=>
 (AV.asAgg 2 Of.1).bind fun c42=>
 I6 c42 0 fun KC=>I6 c42 1 fun SI=>(bc (Of.2.ld (.n h.next) 0) (some (.i .i64 fC))).bind fun _=>
 (bc (Of.2.ld (.n h.next) 1) (some (.i .i64 rZ))).bind fun _=>
 (bc (Of.2.ld (.n h.next) 2) (some (.i .i64 ji))).bind fun _=>
 (bc (Of.2.ld (.n h.next) 3) (some (.i .i64 jo))).bind fun _=>
 (bc (Of.2.ld (.n h.next) 4) (some (.i .i64 ot))).bind fun _=>
 (Of.2.st (.n (h.next+1)) 0 (P1 fC rZ ji jo ot KC SI 0)).bind fun h45=>
 w.W0 h45 (.n (h.next+1)) 0 fun Rx Ry WO T' n55 n57 Zv n61=>
 some ((.aS [(.agg (P1 Rx Ry WO T' n55 n57 Zv n61)),J 0]),h45))
 else none
def Nj (Hc RE:Sm O):Sm O:=FM js Hc RE
def Up:Sm O:=Nj vq EG
theorem RF:aa Tryz.prog 84:=Tryz.call84
theorem RG (Hc RE:Sm O):run (O:=O) Tryz.prog [(108,Hc),(114,RE)] Tryz.f84 (.n .z (.n (.n .z (.n .x .z)) (.n (.d [] [0,1,2,3,4,5] [0,0,2,7,15,31]) .z)))=Nj Hc RE:=
 (show run (O:=O) Tryz.prog [(108,Hc),(114,RE)] Tryz.f84 (.n .z (.n (.n .z (.n .x .z)) (.n (.d [] [0,1,2,3,4,5] [0,0,2,7,15,31]) .z)))=FM jr Hc RE by kernel_rfl).trans (congrArg (fun w=>FM w Hc RE) se)
theorem Nk:ae RO Tryz.prog 84 Up:=bt (RG _ _) (af ua qt <| af Hj DN <| aA) Tryz.func84 (by kernel_rfl)
def J4:Sm O:=fun xs h=>
 bif Nat.beq xs.length 1 then
 (AV.ag .i64 (xs.getD 0 .u)).bind fun n0=>
 ((bif ((decide (n0<1)) == false) then
 some ([(.b (decide (n0 > 32)))],h)
 else some ([(.b true)],h)):Option (List AV × AH O)).bind fun r1=>
 (AV.aV (r1.1.getD 0 .u)).bind fun b2=>
 (bif b2 then
 none
 else let h3:=r1.2.bump 1
 let h4:=h3.put r1.2.next (.cells true 235 (P2 n0 0 0 0 0 0 0 0 0 0 0 0 0 0 0 0 0 0 0 0 0 0 0 0 0 0 0 0 0 0 0 0 0 0 0 0 0 0 0 0 0 0 0 0 0 0 0 0 0 0 0 0 0 0 0 0 0 0 0 0 0 0 0 0 0))
 some ((.aS [(.p (some ((.n r1.2.next),0))),J 0]),h4))
 else none
def Qh:Sm O:=J4
theorem OT:aa Tryz.prog 85:=Tryz.call85
theorem OU:run (O:=O) Tryz.prog [] Tryz.f85 (.n .z (.n (.n (.g [(2,2,[(9,.one .b)])]) (.n .x .z)) .z))=J4:=by kernel_rfl
theorem K1:ae RO Tryz.prog 85 Qh:=bt OU (aA) Tryz.func85 (by kernel_rfl)
def EH:Sm O:=fun xs h=>
 bif Nat.beq xs.length 0 then
 let h0:=h.bump 1
 let h1:=h0.put h.next (.cells true 239 P3)
 some ((.p (some ((.n h.next),0))),h1)
 else none
def J5:Sm O:=EH
theorem K2:aa Tryz.prog 86:=Tryz.call86
theorem K3:run (O:=O) Tryz.prog [] Tryz.f86 (.n .z .z)=EH:=by kernel_rfl
theorem Hl:ae RO Tryz.prog 86 J5:=bt K3 (aA) Tryz.func86 (by kernel_rfl)
def Hm:Sm O:=fun xs h=>
 bif Nat.beq xs.length 0 then
 let h0:=h.bump 2
 let h1:=h0.put h.next (.map [] [] 0)
 let h2:=h1.put (h.next+1) (.cells true 242 [(.mp (some h.next))])
 some ((.p (some ((.n (h.next+1)),0))),h2)
 else none
def FN:Sm O:=Hm
theorem Cm:aa Tryz.prog 87:=Tryz.call87
theorem Nl:run (O:=O) Tryz.prog [] Tryz.f87 (.n .z .z)=Hm:=by kernel_rfl
theorem wZ:ae RO Tryz.prog 87 FN:=bt Nl (aA) Tryz.func87 (by kernel_rfl)
def FO (w:Words O) (XS k81 OV k82 k84 k85 k86 XU:Sm O):Sm O:=fun xs h=>
 bif Nat.beq xs.length 1 then
 (AV.asAgg 5 (xs.getD 0 .u)).bind fun c0=>
 I6 c0 0 fun n1=>I6 c0 1 fun n2=>I6 c0 2 fun n3=>I6 c0 3 fun n4=>I6 c0 4 fun n5=>let h6:=h.bump 1
 let h7:=h6.put h.next (.cells true 121 [J n1,J n2,J n3,J n4,J n5])
 (h7.ld (.n h.next) 0).bind fun w8=>
 (AV.ag .i64 w8).bind fun n9=>
 (h7.ld (.n h.next) 1).bind fun wP=>
 (AV.ag .i64 wP).bind fun dZ=>
 (h7.ld (.n h.next) 2).bind fun tw=>
 (AV.ag .i64 tw).bind fun fg=>
 (h7.ld (.n h.next) 3).bind fun ou=>
 (AV.ag .i64 ou).bind fun gd=>
 (h7.ld (.n h.next) 4).bind fun vl=>
 (AV.ag .i64 vl).bind fun iO=>
 (XS [(.agg [J n9,J dZ,J fg,J gd,J iO])] h7).bind fun gb=>
 (AV.ag .i64 gb.1).bind fun kN=>
 (bif ((kN:Int) != 0) then
 none
 else (gb.2.ld (.n h.next) 2).bind fun DL=>
 (AV.ag .i64 DL).bind fun vr=>
 (gb.2.ld (.n h.next) 1).bind fun IZ=>
 (AV.ag .i64 IZ).bind fun qo=>
 (k81 [J vr,J qo] gb.2).bind fun tq=>
 (AV.aE 2 tq.1).bind fun XQ=>
 (AV.aT (XQ.getD 0 .u)).bind fun p26=>
 I6 XQ 1 fun Ai=>(bif ((Ai:Int) != 0) then
 none
 else (OV [(.p p26)] tq.2).bind fun Uc=>
 (AV.aT Uc.1).bind fun p29=>
 (k82 [(.p p29)] Uc.2).bind fun DA=>
 (AV.aE 2 DA.1).bind fun c31=>
 (AV.aT (c31.getD 0 .u)).bind fun p32=>
 I6 c31 1 fun RH=>(bif ((RH:Int) != 0) then
 none
 else let OC:=DA.2.bump 1
 (OC.ld (.n h.next) 0).bind fun Rw=>
 (AV.ag .i64 Rw).bind fun GU=>
 (OC.ld (.n h.next) 1).bind fun M1=>
 (AV.ag .i64 M1).bind fun GV=>
 (OC.ld (.n h.next) 2).bind fun Zn=>
 (AV.ag .i64 Zn).bind fun n40=>
 (OC.ld (.n h.next) 3).bind fun ZC=>
 (AV.ag .i64 ZC).bind fun Oe=>
 (OC.ld (.n h.next) 4).bind fun ZF=>
 (AV.ag .i64 ZF).bind fun SI=>
 (k84 [(.agg [J GU,J GV,J n40,J Oe,J SI])] OC).bind fun SJ=>
 (AV.aE 2 SJ.1).bind fun c46=>
 (AV.asAgg 8 (c46.getD 0 .u)).bind fun c47=>
 w.U0 c47 fun WC Ry MG WO Zo T' SF n55=>
 I6 c46 1 fun SG=>let Rb:=SJ.2.put DA.2.next (.cells true 168 P0)
 (Rb.st (.n DA.2.next) 0 (P1 WC Ry MG WO Zo T' SF n55)).bind fun h58=>
 (bif ((SG:Int) != 0) then
 none
 else (h58.ld (.n h.next) 3).bind fun w59=>
 (AV.ag .i64 w59).bind fun Zq=>
 (k85 [J Zq] h58).bind fun yA=>
 (AV.aE 2 yA.1).bind fun c62=>
 (AV.aT (c62.getD 0 .u)).bind fun p63=>
 I6 c62 1 fun Z6=>(bif ((Z6:Int) != 0) then
 none
 else let h65:=yA.2.bump 1
 (h65.ld (.n h.next) 0).bind fun w66=>
 (AV.ag .i64 w66).bind fun Z8=>
 (h65.ld (.n h.next) 1).bind fun w68=>
 (AV.ag .i64 w68).bind fun Rp=>
 (h65.ld (.n h.next) 2).bind fun w70=>
 (AV.ag .i64 w70).bind fun n71=>
 (h65.ld (.n h.next) 3).bind fun w72=>
 (AV.ag .i64 w72).bind fun n73=>
 (h65.ld (.n h.next) 4).bind fun w74=>
 (AV.ag .i64 w74).bind fun n75=>
 w.W0 h65 (.n DA.2.next) 0 fun n77 n79 n81 n83 n85 n87 n89 n91=>
 (k86 [] h65).bind fun WQ=>
 (AV.aT WQ.1).bind fun p93=>
 (bc (WQ.2.ld (.n h.next) 0) (some (.i .i64 Z8))).bind fun _=>
 (bc (WQ.2.ld (.n h.next) 1) (some (.i .i64 Rp))).bind fun _=>
 (bc (WQ.2.ld (.n h.next) 2) (some (.i .i64 n71))).bind fun _=>
 (bc (WQ.2.ld (.n h.next) 3) (some (.i .i64 n73))).bind fun _=>
 (bc (WQ.2.ld (.n h.next) 4) (some (.i .i64 n75))).bind fun _=>
 (bc (WQ.2.ld (.n DA.2.next) 0) (some (.i .i64 n77))).bind fun _=>
 (bc (WQ.2.ld (.n DA.2.next) 1) (some (.i .i64 n79))).bind fun _=>
 (bc (WQ.2.ld (.n DA.2.next) 2) (some (.i .i64 n81))).bind fun _=>
 (bc (WQ.2.ld (.n DA.2.next) 3) (some (.i .i64 n83))).bind fun _=>
 (bc (WQ.2.ld (.n DA.2.next) 4) (some (.i .i64 n85))).bind fun _=>
 (bc (WQ.2.ld (.n DA.2.next) 5) (some (.i .i64 n87))).bind fun _=>
 (bc (WQ.2.ld (.n DA.2.next) 6) (some (.i .i64 n89))).bind fun _=>
 (bc (WQ.2.ld (.n DA.2.next) 7) (some (.i .i64 n91))).bind fun _=>
 let h94:=WQ.2.put yA.2.next (.cells true 190 [J Z8,J Rp,J n71,J n73,J n75,(.p p26),(.p p32),J n77,J n79,J n81,J n83,J n85,J n87,J n89,J n91,(.i .u64 0),(.i .u64 0),(.i .u64 0),(.i .u64 0),(.p p63),(.p p93),J 0,J 0,J 0,J 0,J 0,J 0,J 0,(.i .u64 0),(.i .u64 0),(.p none),J 0,J 0,J 0,J 0,J 0,J 0,J 0,J 0,J 0])
 (XU [] h94).bind fun r95=>
 (AV.aT r95.1).bind fun p96=>
 (r95.2.st (.n yA.2.next) 30 [(.p p96)]).bind fun h97=>
 some ((.aS [(.p (some ((.n yA.2.next),0))),J 0]),h97))))))
 else none
def Nn (XS k81 OV k82 k84 k85 k86 XU:Sm O):Sm O:=FO js XS k81 OV k82 k84 k85 k86 XU
def Uq:Sm O:=Nn yN Qf eg Qg Up Qh J5 FN
theorem RI:aa Tryz.prog 64:=Tryz.call64
theorem RJ (XS k81 OV k82 k84 k85 k86 XU:Sm O):run (O:=O) Tryz.prog [(80,XS),(81,k81),(83,OV),(82,k82),(84,k84),(85,k85),(86,k86),(87,XU)] Tryz.f64 (.n .z (.n (.n .z (.n .z (.n .x .z))) (.n .z (.n (.n .z (.n .x .z)) (.n .z (.n (.n .z (.n .x .z)) (.n .z (.n (.n .z (.n .x .z)) (.n .z (.n (.n .z (.n .x .z)) (.n (.d [] [0,1,2,3,4,5,6,7,8] [0,0,0,0,0,0,63,127,255]) (.n .z .z))))))))))))=Nn XS k81 OV k82 k84 k85 k86 XU:=
 (show run (O:=O) Tryz.prog [(80,XS),(81,k81),(83,OV),(82,k82),(84,k84),(85,k85),(86,k86),(87,XU)] Tryz.f64 (.n .z (.n (.n .z (.n .z (.n .x .z))) (.n .z (.n (.n .z (.n .x .z)) (.n .z (.n (.n .z (.n .x .z)) (.n .z (.n (.n .z (.n .x .z)) (.n .z (.n (.n .z (.n .x .z)) (.n (.d [] [0,1,2,3,4,5,6,7,8] [0,0,0,0,0,0,63,127,255]) (.n .z .z))))))))))))=FO jr XS k81 OV k82 k84 k85 k86 XU by kernel_rfl).trans (congrArg (fun w=>FO w XS k81 OV k82 k84 k85 k86 XU) se)
theorem Np:ae RO Tryz.prog 64 Uq:=bt (RJ _ _ _ _ _ _ _ _) (af wX sf <| af OP KX <| af iU gq <| af OR K0 <| af RF Nk <| af OT K1 <| af K2 Hl <| af Cm wZ <| aA) Tryz.func64 (by kernel_rfl)
def EI (k63 k64:Sm O):Sm O:=fun xs h=>
 bif Nat.beq xs.length 1 then
 (AV.aG (xs.getD 0 .u)).bind fun l0=>
 let h1:=h.bump 1
 (k63 [L l0] h1).bind fun r2=>
 (AV.aE 2 r2.1).bind fun c3=>
 (AV.asAgg 5 (c3.getD 0 .u)).bind fun c4=>
 I6 c4 0 fun n5=>I6 c4 1 fun n6=>I6 c4 2 fun n7=>I6 c4 3 fun n8=>I6 c4 4 fun n9=>I6 c3 1 fun cQ=>let iM:=r2.2.put h.next (.cells true 121 [J 0,J 0,J 0,J 0,J 0])
 (iM.st (.n h.next) 0 [J n5,J n6,J n7,J n8,J n9]).bind fun G9=>
 (bif ((cQ:Int) != 0) then
 none
 else (G9.ld (.n h.next) 0).bind fun tz=>
 (AV.ag .i64 tz).bind fun fW=>
 (G9.ld (.n h.next) 1).bind fun tx=>
 (AV.ag .i64 tx).bind fun jN=>
 (G9.ld (.n h.next) 2).bind fun vk=>
 (AV.ag .i64 vk).bind fun jX=>
 (G9.ld (.n h.next) 3).bind fun I5=>
 (AV.ag .i64 I5).bind fun nv=>
 (G9.ld (.n h.next) 4).bind fun yF=>
 (AV.ag .i64 yF).bind fun fC=>
 (k64 [(.agg [J fW,J jN,J jX,J nv,J fC])] G9).bind fun zG=>
 (AV.aE 2 zG.1).bind fun WK=>
 (AV.aT (WK.getD 0 .u)).bind fun p25=>
 I6 WK 1 fun ji=>(bif ((ji:Int) != 0) then
 none
 else let Rf:=zG.2.bump 1
 let H4:=Rf.put zG.2.next (.cells true 128 [(.p p25)])
 some ((.aS [(.p (some ((.n zG.2.next),0))),J 0]),H4)))
 else none
def uc:Sm O:=EI JY Uq
theorem K4:aa Tryz.prog 38:=Tryz.call38
theorem K5 (k63 k64:Sm O):run (O:=O) Tryz.prog [(63,k63),(64,k64)] Tryz.f38 (.n .z (.n .z (.n (.n .z (.n .x .z)) (.n .z (.n (.n .z (.n .x .z)) .z)))))=EI k63 k64:=by kernel_rfl
theorem Hn:ae RO Tryz.prog 38 uc:=bt (K5 _ _) (af KS He <| af RI Np <| aA) Tryz.func38 (by kernel_rfl)
def Cn:Sm O:=fun xs h=>
 bif Nat.beq xs.length 2 then
 (AV.ag .i64 (xs.getD 0 .u)).bind fun n0=>
 (AV.aG (xs.getD 1 .u)).bind fun l1=>
 let h2:=h.bump 1
 let h3:=h2.put h.next (.cells true 41 [J 0,N])
 (bif ((n0:Int) != 0) then
 none
 else (h3.st (.n h.next) 0 [J 0,L l1]).bind fun h4=>
 (h4.ld (.n h.next) 0).bind fun w5=>
 (AV.ag .i64 w5).bind fun n6=>
 (h4.ld (.n h.next) 1).bind fun w7=>
 (AV.aG w7).bind fun l8=>
 some ((.agg [J n6,L l8]),h4))
 else none
def bY:Sm O:=Cn
theorem fR:aa Tryz.prog 39:=Tryz.call39
theorem I7:run (O:=O) Tryz.prog [] Tryz.f39 (.n .z (.n (.n .z (.n .x .z)) .z))=Cn:=by kernel_rfl
theorem eB:ae RO Tryz.prog 39 bY:=bt I7 (aA) Tryz.func39 (by kernel_rfl)
def J6:Sm O:=fun xs h=>
 bif Nat.beq xs.length 1 then
 (AV.ag .i64 (xs.getD 0 .u)).bind fun n0=>
 ((bif ((decide (n0 ≥ 0)) == true) then
 some ([(.b (decide (n0<21)))],h)
 else some ([(.b false)],h)):Option (List AV × AH O)).bind fun r1=>
 (AV.aV (r1.1.getD 0 .u)).bind fun b2=>
 some ((.b b2),r1.2)
 else none
def I8:Sm O:=J6
theorem EJ:aa Tryz.prog 88:=Tryz.call88
theorem OW:run (O:=O) Tryz.prog [] Tryz.f88 (.n .z (.n (.g [(2,2,[(8,.one .b)])]) .z))=J6:=by kernel_rfl
theorem zN:ae RO Tryz.prog 88 I8:=bt OW (aA) Tryz.func88 (by kernel_rfl)
def Co:Sm O:=fun xs h=>
 bif Nat.beq xs.length 0 then
 let h0:=h.bump 1
 let h1:=h0.put h.next (.cells true 245 [(.s ([]:List UInt8)),J 0,(.s ([]:List UInt8)),J 0,(.s ([]:List UInt8)),J 0,(.s ([]:List UInt8)),J 0,(.s ([]:List UInt8)),J 0,(.s ([]:List UInt8)),J 0,(.s ([]:List UInt8)),J 0,(.s ([]:List UInt8)),J 0,(.s ([]:List UInt8)),J 0,(.s ([]:List UInt8)),J 0,(.s ([]:List UInt8)),J 0,(.s ([]:List UInt8)),J 0,(.s ([]:List UInt8)),J 0,(.s ([]:List UInt8)),J 0,(.s ([]:List UInt8)),J 0,(.s ([]:List UInt8)),J 0,(.s ([]:List UInt8)),J 0,(.s ([]:List UInt8)),J 0,(.s ([]:List UInt8)),J 0,(.s ([]:List UInt8)),J 0,(.s ([]:List UInt8)),J 0])
 (h1.st (.n h.next) 0 [(.s ([97,108,108,111,99]:List UInt8)),J 4,(.s ([103,108,111,98,97,108]:List UInt8)),J 0,(.s ([114,101,108,101,97,115,101]:List UInt8)),J 1,(.s ([112,117,115,104]:List UInt8)),J 1,(.s ([112,111,112]:List UInt8)),J 0,(.s ([119,101,97,107]:List UInt8)),J 1,(.s ([117,110,119,101,97,107]:List UInt8)),J 1,(.s ([100,101,114,101,102]:List UInt8)),J 2,(.s ([99,111,112,121]:List UInt8)),J 2,(.s ([110,117,108,108]:List UInt8)),J 1,(.s ([108,111,97,100]:List UInt8)),J 3,(.s ([115,116,111,114,101]:List UInt8)),J 3,(.s ([103,101,116]:List UInt8)),J 2,(.s ([115,101,116]:List UInt8)),J 3,(.s ([115,97,109,101]:List UInt8)),J 2,(.s ([115,105,122,101]:List UInt8)),J 1,(.s ([97,103,101]:List UInt8)),J 1,(.s ([99,111,108,108,101,99,116]:List UInt8)),J 0,(.s ([115,116,97,116,115]:List UInt8)),J 0,(.s ([99,101,110,115,117,115]:List UInt8)),J 0,(.s ([112,114,111,102,105,108,101]:List UInt8)),J 0]).bind fun h2=>
 (h2.ld (.n h.next) 0).bind fun w3=>
 (AV.dV w3).bind fun s4=>
 (h2.ld (.n h.next) 1).bind fun w5=>
 (AV.ag .i64 w5).bind fun n6=>
 (h2.ld (.n h.next) 2).bind fun w7=>
 (AV.dV w7).bind fun s8=>
 (h2.ld (.n h.next) 3).bind fun w9=>
 (AV.ag .i64 w9).bind fun cQ=>
 (h2.ld (.n h.next) 4).bind fun nm=>
 (AV.dV nm).bind fun s12=>
 (h2.ld (.n h.next) 5).bind fun tz=>
 (AV.ag .i64 tz).bind fun fW=>
 (h2.ld (.n h.next) 6).bind fun tx=>
 (AV.dV tx).bind fun s16=>
 (h2.ld (.n h.next) 7).bind fun vk=>
 (AV.ag .i64 vk).bind fun jX=>
 (h2.ld (.n h.next) 8).bind fun I5=>
 (AV.dV I5).bind fun s20=>
 (h2.ld (.n h.next) 9).bind fun yF=>
 (AV.ag .i64 yF).bind fun fC=>
 (h2.ld (.n h.next) 10).bind fun I1=>
 (AV.dV I1).bind fun s24=>
 (h2.ld (.n h.next) 11).bind fun FL=>
 (AV.ag .i64 FL).bind fun ji=>
 (h2.ld (.n h.next) 12).bind fun yM=>
 (AV.dV yM).bind fun s28=>
 (h2.ld (.n h.next) 13).bind fun yH=>
 (AV.ag .i64 yH).bind fun ot=>
 (h2.ld (.n h.next) 14).bind fun Cl=>
 (AV.dV Cl).bind fun s32=>
 (h2.ld (.n h.next) 15).bind fun FE=>
 (AV.ag .i64 FE).bind fun wg=>
 (h2.ld (.n h.next) 16).bind fun Rw=>
 (AV.dV Rw).bind fun s36=>
 (h2.ld (.n h.next) 17).bind fun M1=>
 (AV.ag .i64 M1).bind fun GV=>
 (h2.ld (.n h.next) 18).bind fun Zn=>
 (AV.dV Zn).bind fun s40=>
 (h2.ld (.n h.next) 19).bind fun ZC=>
 (AV.ag .i64 ZC).bind fun Oe=>
 (h2.ld (.n h.next) 20).bind fun ZF=>
 (AV.dV ZF).bind fun s44=>
 (h2.ld (.n h.next) 21).bind fun w45=>
 (AV.ag .i64 w45).bind fun Ue=>
 (h2.ld (.n h.next) 22).bind fun w47=>
 (AV.dV w47).bind fun s48=>
 (h2.ld (.n h.next) 23).bind fun w49=>
 (AV.ag .i64 w49).bind fun MG=>
 (h2.ld (.n h.next) 24).bind fun w51=>
 (AV.dV w51).bind fun s52=>
 (h2.ld (.n h.next) 25).bind fun w53=>
 (AV.ag .i64 w53).bind fun SF=>
 (h2.ld (.n h.next) 26).bind fun Zz=>
 (AV.dV Zz).bind fun s56=>
 (h2.ld (.n h.next) 27).bind fun Zp=>
 (AV.ag .i64 Zp).bind fun Uk=>
 (h2.ld (.n h.next) 28).bind fun w59=>
 (AV.dV w59).bind fun s60=>
 (h2.ld (.n h.next) 29).bind fun w61=>
 (AV.ag .i64 w61).bind fun n62=>
 (h2.ld (.n h.next) 30).bind fun w63=>
 (AV.dV w63).bind fun s64=>
 (h2.ld (.n h.next) 31).bind fun w65=>
 (AV.ag .i64 w65).bind fun Zr=>
 (h2.ld (.n h.next) 32).bind fun w67=>
 (AV.dV w67).bind fun s68=>
 (h2.ld (.n h.next) 33).bind fun w69=>
 (AV.ag .i64 w69).bind fun n70=>
 (h2.ld (.n h.next) 34).bind fun w71=>
 (AV.dV w71).bind fun s72=>
 (h2.ld (.n h.next) 35).bind fun w73=>
 (AV.ag .i64 w73).bind fun n74=>
 (h2.ld (.n h.next) 36).bind fun w75=>
 (AV.dV w75).bind fun s76=>
 (h2.ld (.n h.next) 37).bind fun w77=>
 (AV.ag .i64 w77).bind fun n78=>
 (h2.ld (.n h.next) 38).bind fun w79=>
 (AV.dV w79).bind fun s80=>
 (h2.ld (.n h.next) 39).bind fun w81=>
 (AV.ag .i64 w81).bind fun n82=>
 (h2.ld (.n h.next) 40).bind fun w83=>
 (AV.dV w83).bind fun s84=>
 (h2.ld (.n h.next) 41).bind fun w85=>
 (AV.ag .i64 w85).bind fun n86=>
 some ((.agg [(.s s4),J n6,(.s s8),J cQ,(.s s12),J fW,(.s s16),J jX,(.s s20),J fC,(.s s24),J ji,(.s s28),J ot,(.s s32),J wg,(.s s36),J GV,(.s s40),J Oe,(.s s44),J Ue,(.s s48),J MG,(.s s52),J SF,(.s s56),J Uk,(.s s60),J n62,(.s s64),J Zr,(.s s68),J n70,(.s s72),J n74,(.s s76),J n78,(.s s80),J n82,(.s s84),J n86]),h2)
 else none
def Ho:Sm O:=Co
theorem I9:aa Tryz.prog 115:=Tryz.call115
theorem I':run (O:=O) Tryz.prog [] Tryz.f115 (.n .z .z)=Co:=by kernel_rfl
theorem FP:ae RO Tryz.prog 115 Ho:=bt I' (aA) Tryz.func115 (by kernel_rfl)
def Cp (k88 afa:Sm O):Sm O:=fun xs h=>
 bif Nat.beq xs.length 1 then
 (AV.ag .i64 (xs.getD 0 .u)).bind fun n0=>
 (k88 [J n0] h).bind fun r1=>
 (AV.aV r1.1).bind fun b2=>
 (bif (!b2) then
 none
 else (afa [] r1.2).bind fun r3=>
 (AV.asAgg 42 r3.1).bind fun c4=>
 (AV.dV (c4.getD 0 .u)).bind fun s5=>
 I6 c4 1 fun n6=>(AV.dV (c4.getD 2 .u)).bind fun s7=>
 I6 c4 3 fun n8=>(AV.dV (c4.getD 4 .u)).bind fun s9=>
 I6 c4 5 fun cQ=>(AV.dV (c4.getD 6 .u)).bind fun s11=>
 I6 c4 7 fun dy=>(AV.dV (c4.getD 8 .u)).bind fun s13=>
 I6 c4 9 fun fW=>(AV.dV (c4.getD 10 .u)).bind fun s15=>
 I6 c4 11 fun jN=>(AV.dV (c4.getD 12 .u)).bind fun s17=>
 I6 c4 13 fun jX=>(AV.dV (c4.getD 14 .u)).bind fun s19=>
 I6 c4 15 fun nv=>(AV.dV (c4.getD 16 .u)).bind fun s21=>
 I6 c4 17 fun fC=>(AV.dV (c4.getD 18 .u)).bind fun s23=>
 I6 c4 19 fun rZ=>(AV.dV (c4.getD 20 .u)).bind fun s25=>
 I6 c4 21 fun ji=>(AV.dV (c4.getD 22 .u)).bind fun s27=>
 I6 c4 23 fun jo=>(AV.dV (c4.getD 24 .u)).bind fun s29=>
 I6 c4 25 fun ot=>(AV.dV (c4.getD 26 .u)).bind fun s31=>
 I6 c4 27 fun lJ=>(AV.dV (c4.getD 28 .u)).bind fun s33=>
 I6 c4 29 fun wg=>(AV.dV (c4.getD 30 .u)).bind fun s35=>
 I6 c4 31 fun GU=>(AV.dV (c4.getD 32 .u)).bind fun s37=>
 I6 c4 33 fun GV=>(AV.dV (c4.getD 34 .u)).bind fun s39=>
 I6 c4 35 fun n40=>(AV.dV (c4.getD 36 .u)).bind fun s41=>
 I6 c4 37 fun Oe=>(AV.dV (c4.getD 38 .u)).bind fun s43=>
 I6 c4 39 fun SI=>(AV.dV (c4.getD 40 .u)).bind fun s45=>
 I6 c4 41 fun Ue=>(bif ((decide ((0:Int) ≤ n0)) && (decide (n0<21))) then
 (((([(.s s5),J n6,(.s s7),J n8,(.s s9),J cQ,(.s s11),J dy,(.s s13),J fW,(.s s15),J jN,(.s s17),J jX,(.s s19),J nv,(.s s21),J fC,(.s s23),J rZ,(.s s25),J ji,(.s s27),J jo,(.s s29),J ot,(.s s31),J lJ,(.s s33),J wg,(.s s35),J GU,(.s s37),J GV,(.s s39),J n40,(.s s41),J Oe,(.s s43),J SI,(.s s45),J Ue]:List AV).drop (n0.toNat*2)).take 2)[1]?).bind fun w47=>
 (AV.ag .i64 w47).bind fun WC=>
 some (J WC,r3.2)
 else none))
 else none
def Hp:Sm O:=Cp I8 Ho
theorem Ja:aa Tryz.prog 89:=Tryz.call89
theorem Jb (k88 afa:Sm O):run (O:=O) Tryz.prog [(88,k88),(115,afa)] Tryz.f89 (.n .z (.n (.n .z (.n .x .z)) .z))=Cp k88 afa:=by kernel_rfl
theorem FQ:ae RO Tryz.prog 89 Hp:=bt (Jb _ _) (af EJ zN <| af I9 FP <| aA) Tryz.func89 (by kernel_rfl)
def Cq (k88 k89:Sm O):Sm O:=fun xs h=>
 bif Nat.beq xs.length 1 then
 (AV.aG (xs.getD 0 .u)).bind fun l0=>
 let h1:=h.bump 1
 let h2:=h1.put h.next (.cells true 132 [J 0,J 0,J 0,J 0,J 0])
 ((bif ((((l0.2:Int):Int) == 0) == false) then
 (bif (decide ((0:Int)<(l0.2:Int))) then
 (SA.ref l0.1).bind fun q3=>
 (h2.ld q3.1 q3.2).bind fun w4=>
 (AV.ag .i64 w4).bind fun n5=>
 (k88 [J n5] h2).bind fun r6=>
 (AV.aV r6.1).bind fun b7=>
 some ([(.b (!b7))],r6.2)
 else none)
 else some ([(.b true)],h2)):Option (List AV × AH O)).bind fun r8=>
 (AV.aV (r8.1.getD 0 .u)).bind fun b9=>
 (bif b9 then
 none
 else let gS:=r8.2.bump 1
 (bif (decide ((0:Int)<(l0.2:Int))) then
 (SA.ref l0.1).bind fun Gm=>
 (gS.ld Gm.1 Gm.2).bind fun tw=>
 (AV.ag .i64 tw).bind fun fg=>
 let tu:=gS.put r8.2.next (.cells true 132 [J 0,J 0,J 0,J 0,J 0])
 (tu.st (.n r8.2.next) 0 [J fg,J 0,J 0,J 0,J 0]).bind fun oY=>
 (oY.ld (.n r8.2.next) 0).bind fun vl=>
 (AV.ag .i64 vl).bind fun iO=>
 (k89 [J iO] oY).bind fun gb=>
 (AV.ag .i64 gb.1).bind fun kN=>
 let c20:Bool:=(((IntKind.i64.wrap ((l0.2:Int) - 1)):Int) != kN)
 (bif c20 then
 none
 else (bif ((decide ((1:Int) ≤ (l0.2:Int))) && (decide ((l0.2:Int) ≤ (l0.2:Int)))) then
 (SA.DD l0.1 1 1).bind fun a21=>
 (bif Nat.beq (min ((l0.2:Int).toNat - 1) (4 - 0)) 0 then
 (gb.2.ld (.n r8.2.next) 0).bind fun FL=>
 (AV.ag .i64 FL).bind fun ji=>
 (gb.2.ld (.n r8.2.next) 1).bind fun yM=>
 (AV.ag .i64 yM).bind fun jo=>
 (gb.2.ld (.n r8.2.next) 2).bind fun yH=>
 (AV.ag .i64 yH).bind fun ot=>
 (gb.2.ld (.n r8.2.next) 3).bind fun Cl=>
 (AV.ag .i64 Cl).bind fun lJ=>
 (gb.2.ld (.n r8.2.next) 4).bind fun FE=>
 (AV.ag .i64 FE).bind fun wg=>
 (gb.2.st (.n h.next) 0 [J ji,J jo,J ot,J lJ,J wg]).bind fun wO=>
 (wO.ld (.n h.next) 0).bind fun Ui=>
 (AV.ag .i64 Ui).bind fun OX=>
 (wO.ld (.n h.next) 1).bind fun OG=>
 (AV.ag .i64 OG).bind fun Ot=>
 (wO.ld (.n h.next) 2).bind fun WR=>
 (AV.ag .i64 WR).bind fun Ou=>
 (wO.ld (.n h.next) 3).bind fun WS=>
 (AV.ag .i64 WS).bind fun KC=>
 (wO.ld (.n h.next) 4).bind fun ZD=>
 (AV.ag .i64 ZD).bind fun Ov=>
 some ((.aS [(.agg [J OX,J Ot,J Ou,J KC,J Ov]),J 0]),wO)
 else
 (gb.2.bC a21 (min ((l0.2:Int).toNat - 1) (4 - 0)) 1).bind fun Qa=>
 (gb.2.VE (.ar (.n r8.2.next) 1 1) Qa).bind fun P'=>
 (P'.ld (.n r8.2.next) 0).bind fun WJ=>
 (AV.ag .i64 WJ).bind fun Rx=>
 (P'.ld (.n r8.2.next) 1).bind fun ZE=>
 (AV.ag .i64 ZE).bind fun Ry=>
 (P'.ld (.n r8.2.next) 2).bind fun w50=>
 (AV.ag .i64 w50).bind fun WO=>
 (P'.ld (.n r8.2.next) 3).bind fun w52=>
 (AV.ag .i64 w52).bind fun T'=>
 (P'.ld (.n r8.2.next) 4).bind fun w54=>
 (AV.ag .i64 w54).bind fun n55=>
 (P'.st (.n h.next) 0 [J Rx,J Ry,J WO,J T',J n55]).bind fun h56=>
 (h56.ld (.n h.next) 0).bind fun Zp=>
 (AV.ag .i64 Zp).bind fun Uk=>
 (h56.ld (.n h.next) 1).bind fun w59=>
 (AV.ag .i64 w59).bind fun Zq=>
 (h56.ld (.n h.next) 2).bind fun w61=>
 (AV.ag .i64 w61).bind fun n62=>
 (h56.ld (.n h.next) 3).bind fun w63=>
 (AV.ag .i64 w63).bind fun Z6=>
 (h56.ld (.n h.next) 4).bind fun w65=>
 (AV.ag .i64 w65).bind fun Zr=>
 some ((.aS [(.agg [J Uk,J Zq,J n62,J Z6,J Zr]),J 0]),h56))
 else none))
 else none))
 else none
def rz:Sm O:=Cq I8 Hp
theorem Jc:aa Tryz.prog 65:=Tryz.call65
theorem Jd (k88 k89:Sm O):run (O:=O) Tryz.prog [(88,k88),(89,k89)] Tryz.f65 (.n .z (.n (.n (.g [(3,5,[(14,.one .b)])]) (.n .x .z)) (.n .z (.n (.n .z (.n .x .z)) (.n (.d [] [0,1,2,3,4] [0,1,0,4,15]) .z)))))=Cq k88 k89:=by kernel_rfl
theorem FR:ae RO Tryz.prog 65 rz:=bt (Jd _ _) (af EJ zN <| af Ja FQ <| aA) Tryz.func65 (by kernel_rfl)
def o0:Sm O:=fun xs h=>
 bif Nat.beq xs.length 1 then
 (AV.aT (xs.getD 0 .u)).bind fun p0=>
 (bif (Option.isNone p0) then
 none
 else Option.bind p0 fun q1=>
 (h.ld q1.1 q1.2).bind fun w2=>
 (AV.ag .i64 w2).bind fun n3=>
 some (J n3,h))
 else none
def sj:Sm O:=o0
theorem yP:aa Tryz.prog 248:=Tryz.call248
theorem yQ:run (O:=O) Tryz.prog [] Tryz.f248 (.n .z (.n (.n .z (.n .x .z)) .z))=o0:=by kernel_rfl
theorem vt:ae RO Tryz.prog 248 sj:=bt yQ (aA) Tryz.func248 (by kernel_rfl)
def ud (afb:Sm O):Sm O:=fun xs h=>
 bif Nat.beq xs.length 2 then
 (AV.aT (xs.getD 0 .u)).bind fun p0=>
 (AV.ag .i64 (xs.getD 1 .u)).bind fun n1=>
 ((bif ((decide (n1 ≥ 0)) == true) then
 (afb [(.p p0)] h).bind fun r2=>
 (AV.ag .i64 r2.1).bind fun n3=>
 some ([(.b (decide (n1<n3)))],r2.2)
 else some ([(.b false)],h)):Option (List AV × AH O)).bind fun r4=>
 (AV.aV (r4.1.getD 0 .u)).bind fun b5=>
 some ((.b b5),r4.2)
 else none
def gM:Sm O:=ud sj
theorem qw:aa Tryz.prog 212:=Tryz.call212
theorem DO (afb:Sm O):run (O:=O) Tryz.prog [(248,afb)] Tryz.f212 (.n .z (.n (.g [(2,4,[(12,.one .b)])]) .z))=ud afb:=by kernel_rfl
theorem ny:ae RO Tryz.prog 212 gM:=bt (DO _) (af yP vt <| aA) Tryz.func212 (by kernel_rfl)
def EK (Vo:Sm O):Sm O:=fun xs h=>
 bif Nat.beq xs.length 1 then
 (AV.asAgg 2 (xs.getD 0 .u)).bind fun c0=>
 I6 c0 0 fun n1=>I6 c0 1 fun n2=>let h3:=h.bump 1
 let h4:=h3.put h.next (.cells true 45 [J n1,J n2])
 (h4.ld (.n h.next) 0).bind fun w5=>
 (AV.ag .i64 w5).bind fun n6=>
 (h4.ld (.n h.next) 1).bind fun w7=>
 (AV.ag .i64 w7).bind fun n8=>
 (Vo [(.agg [J n6,J n8,J 0,J 0,(.b false)])] h4).bind fun r9=>
 (AV.ag .i64 r9.1).bind fun cQ=>
 some ((.b ((cQ:Int) == 0)),r9.2)
 else none
def o5:Sm O:=EK cD
theorem zO:aa Tryz.prog 213:=Tryz.call213
theorem K6 (Vo:Sm O):run (O:=O) Tryz.prog [(16,Vo)] Tryz.f213 (.n .z .z)=EK Vo:=by kernel_rfl
theorem ue:ae RO Tryz.prog 213 o5:=bt (K6 _) (af og kP <| aA) Tryz.func213 (by kernel_rfl)
def sm:Sm O:=fun xs h=>
 bif Nat.beq xs.length 1 then
 (AV.aT (xs.getD 0 .u)).bind fun p0=>
 Option.bind p0 fun q1=>
 (h.ld q1.1 (q1.2+2)).bind fun w2=>
 (AV.ag .i64 w2).bind fun n3=>
 some ((.i .i64 (IntKind.i64.wrap (n3+1))),h)
 else none
def jt:Sm O:=sm
theorem iV:aa Tryz.prog 359:=Tryz.call359
theorem Cr:run (O:=O) Tryz.prog [] Tryz.f359 (.n .z .z)=sm:=by kernel_rfl
theorem gr:ae RO Tryz.prog 359 jt:=bt Cr (aA) Tryz.func359 (by kernel_rfl)
def zP (Hq:Sm O):Sm O:=fun xs h=>
 bif Nat.beq xs.length 3 then
 (AV.aT (xs.getD 0 .u)).bind fun p0=>
 (AV.ag .i64 (xs.getD 1 .u)).bind fun n1=>
 (AV.ag .i64 (xs.getD 2 .u)).bind fun n2=>
 (Hq [(.p p0)] h).bind fun r3=>
 (AV.ag .i64 r3.1).bind fun n4=>
 let v5:Int:=(IntKind.i64.wrap ((IntKind.i64.wrap (n1 - 1))*n4))
 let v6:Int:=(IntKind.i64.wrap ((IntKind.i64.wrap (v5+1))+n2))
 some (J v6,r3.2)
 else none
def ke:Sm O:=zP jt
theorem iw:aa Tryz.prog 313:=Tryz.call313
theorem Hr (Hq:Sm O):run (O:=O) Tryz.prog [(359,Hq)] Tryz.f313 (.n .z .z)=zP Hq:=by kernel_rfl
theorem fH:ae RO Tryz.prog 313 ke:=bt (Hr _) (af iV gr <| aA) Tryz.func313 (by kernel_rfl)
def EL:Sm O:=fun xs h=>
 bif Nat.beq xs.length 2 then
 (AV.aT (xs.getD 0 .u)).bind fun p0=>
 (AV.ag .i64 (xs.getD 1 .u)).bind fun n1=>
 ((bif ((decide (n1<0)) == false) then
 Option.bind p0 fun q2=>
 (h.ld q2.1 (q2.2+1)).bind fun w3=>
 (AV.aG w3).bind fun l4=>
 some ([(.b (decide (n1 ≥ (l4.2:Int))))],h)
 else some ([(.b true)],h)):Option (List AV × AH O)).bind fun r5=>
 (AV.aV (r5.1.getD 0 .u)).bind fun b6=>
 ((bif (b6 == false) then
 Option.bind p0 fun q7=>
 (r5.2.ld q7.1 (q7.2+1)).bind fun w8=>
 (AV.aG w8).bind fun l9=>
 (bif ((decide ((0:Int) ≤ n1)) && (decide (n1<(l9.2:Int)))) then
 (SA.ref l9.1).bind fun nZ=>
 (r5.2.ld nZ.1 ((nZ.2+(n1.toNat*2))+1)).bind fun nm=>
 (AV.aV nm).bind fun b12=>
 some ([(.b (!b12))],r5.2)
 else none)
 else some ([(.b true)],r5.2)):Option (List AV × AH O)).bind fun pZ=>
 (AV.aV (pZ.1.getD 0 .u)).bind fun b14=>
 (bif b14 then
 none
 else Option.bind p0 fun q15=>
 (pZ.2.ld q15.1 (q15.2+1)).bind fun vl=>
 (AV.aG vl).bind fun P9=>
 (bif ((decide ((0:Int) ≤ n1)) && (decide (n1<(P9.2:Int)))) then
 (SA.ref P9.1).bind fun q18=>
 some ((.p (some (q18.1,(q18.2+(n1.toNat*2))))),pZ.2)
 else none))
 else none
def o6:Sm O:=EL
theorem kB:aa Tryz.prog 319:=Tryz.call319
theorem K7:run (O:=O) Tryz.prog [] Tryz.f319 (.n .z (.n (.n (.g [(2,7,[(15,.one .b)]),(11,9,[(26,.one .b)])]) (.n .x .z)) .z))=EL:=by kernel_rfl
theorem iy:ae RO Tryz.prog 319 o6:=bt K7 (aA) Tryz.func319 (by kernel_rfl)
def ug (yR:Sm O):Sm O:=fun xs h=>
 bif Nat.beq xs.length 4 then
 (AV.aT (xs.getD 0 .u)).bind fun p0=>
 (AV.ag .i64 (xs.getD 1 .u)).bind fun n1=>
 (AV.ag .i64 (xs.getD 2 .u)).bind fun n2=>
 (AV.ag .i64 (xs.getD 3 .u)).bind fun n3=>
 (yR [(.p p0),J n1] h).bind fun r4=>
 (AV.aT r4.1).bind fun p5=>
 (bif (Option.isNone p5) then
 none
 else ((bif ((decide (n3<0)) == false) then
 some ([(.b (decide (n2<0)))],r4.2)
 else some ([(.b true)],r4.2)):Option (List AV × AH O)).bind fun r6=>
 (AV.aV (r6.1.getD 0 .u)).bind fun b7=>
 ((bif (b7 == false) then
 Option.bind p5 fun q8=>
 (r6.2.ld q8.1 q8.2).bind fun w9=>
 (AV.aG w9).bind fun l10=>
 some ([(.b (decide (n2 > (l10.2:Int))))],r6.2)
 else some ([(.b true)],r6.2)):Option (List AV × AH O)).bind fun oq=>
 (AV.aV (oq.1.getD 0 .u)).bind fun b12=>
 ((bif (b12 == false) then
 Option.bind p5 fun Bu=>
 (oq.2.ld Bu.1 Bu.2).bind fun ou=>
 (AV.aG ou).bind fun Rh=>
 let XV:Bool:=(decide (n3 > (IntKind.i64.wrap ((Rh.2:Int) - n2))))
 some ([(.b XV)],oq.2)
 else some ([(.b true)],oq.2)):Option (List AV × AH O)).bind fun H6=>
 (AV.aV (H6.1.getD 0 .u)).bind fun b18=>
 (bif b18 then
 none
 else Option.bind p5 fun Rc=>
 (H6.2.ld Rc.1 Rc.2).bind fun DL=>
 (AV.aG DL).bind fun Vt=>
 (bif (((decide ((0:Int) ≤ n2)) && (decide (n2 ≤ (IntKind.i64.wrap (n2+n3))))) && (decide ((IntKind.i64.wrap (n2+n3)) ≤ (Vt.2:Int)))) then
 (SA.DD Vt.1 n2.toNat 1).bind fun a22=>
 some ((.aS [(.sl a22 ((IntKind.i64.wrap (n2+n3)).toNat - n2.toNat)),J 0]),H6.2)
 else none)))
 else none
def qe:Sm O:=ug o6
theorem qx:aa Tryz.prog 276:=Tryz.call276
theorem DP (yR:Sm O):run (O:=O) Tryz.prog [(319,yR)] Tryz.f276 (.n .z (.n .z (.n (.n (.n .z (.n .x (.n (.g [(2,2,[(23,.one .b)]),(6,7,[(32,.one .b)]),(15,9,[(43,.one .b)])]) (.n .x .z)))) .z) .z)))=ug yR:=by kernel_rfl
theorem nB:ae RO Tryz.prog 276 qe:=bt (DP _) (af kB iy <| aA) Tryz.func276 (by kernel_rfl)
def Qi:Sm O:=fun xs h=>
 bif Nat.beq xs.length 1 then
 (AV.ag .u64 (xs.getD 0 .u)).bind fun n0=>
 let h1:=h.bump 1
 let h2:=h1.put h.next (.cells true 177 [(.i .u64 0),(.i .u64 0)])
 (h2.st (.n h.next) 0 [(.i .u64 0),(.i .u64 n0)]).bind fun h3=>
 (h3.ld (.n h.next) 0).bind fun w4=>
 (AV.ag .u64 w4).bind fun n5=>
 (h3.ld (.n h.next) 1).bind fun w6=>
 (AV.ag .u64 w6).bind fun n7=>
 some ((.agg [(.i .u64 n5),(.i .u64 n7)]),h3)
 else none
def RL:Sm O:=Qi
theorem J7:aa Tryz.prog 257:=Tryz.call257
theorem Ur:run (O:=O) Tryz.prog [] Tryz.f257 (.n .z .z)=Qi:=by kernel_rfl
theorem EM:ae RO Tryz.prog 257 RL:=bt Ur (aA) Tryz.func257 (by kernel_rfl)
def Nq (OY:Sm O):Sm O:=fun xs h=>
 bif Nat.beq xs.length 2 then
 (AV.asAgg 2 (xs.getD 0 .u)).bind fun c0=>
 (AV.ag .u64 (c0.getD 0 .u)).bind fun n1=>
 (AV.ag .u64 (c0.getD 1 .u)).bind fun n2=>
 (AV.asAgg 2 (xs.getD 1 .u)).bind fun c3=>
 (AV.ag .u64 (c3.getD 0 .u)).bind fun n4=>
 (AV.ag .u64 (c3.getD 1 .u)).bind fun n5=>
 let h6:=h.bump 3
 let h7:=h6.put h.next (.cells true 177 [(.i .u64 n1),(.i .u64 n2)])
 let h8:=h7.put (h.next+1) (.cells true 177 [(.i .u64 n4),(.i .u64 n5)])
 let h9:=h8.put ((h.next+1)+1) (.cells true 177 [(.i .u64 0),(.i .u64 0)])
 (h9.ld (.n h.next) 1).bind fun wP=>
 (AV.ag .u64 wP).bind fun dZ=>
 (h9.ld (.n (h.next+1)) 1).bind fun tw=>
 (AV.ag .u64 tw).bind fun fg=>
 (OY [(.i .u64 dZ),(.i .u64 fg),(.i .u64 0)] h9).bind fun r14=>
 (AV.aE 2 r14.1).bind fun c15=>
 (AV.ag .u64 (c15.getD 0 .u)).bind fun jN=>
 (AV.ag .u64 (c15.getD 1 .u)).bind fun iO=>
 (r14.2.ld (.n h.next) 0).bind fun Ce=>
 (AV.ag .u64 Ce).bind fun kN=>
 (r14.2.ld (.n (h.next+1)) 0).bind fun DL=>
 (AV.ag .u64 DL).bind fun vr=>
 (OY [(.i .u64 kN),(.i .u64 vr),(.i .u64 iO)] r14.2).bind fun tY=>
 (AV.aE 2 tY.1).bind fun Qa=>
 (AV.ag .u64 (Qa.getD 0 .u)).bind fun rZ=>
 (AV.ag .u64 (Qa.getD 1 .u)).bind fun wj=>
 (bif ((wj:Int) != 0) then
 none
 else (tY.2.st (.n ((h.next+1)+1)) 0 [(.i .u64 rZ),(.i .u64 jN)]).bind fun h26=>
 (h26.ld (.n ((h.next+1)+1)) 0).bind fun yM=>
 (AV.ag .u64 yM).bind fun jo=>
 (h26.ld (.n ((h.next+1)+1)) 1).bind fun yH=>
 (AV.ag .u64 yH).bind fun ot=>
 some ((.aS [(.agg [(.i .u64 jo),(.i .u64 ot)]),(.b true)]),h26))
 else none
def xa:Sm O:=Nq rL
theorem mz:aa Tryz.prog 155:=Tryz.call155
theorem RM (OY:Sm O):run (O:=O) Tryz.prog [(207,OY)] Tryz.f155 (.n .z (.n .z (.n .z (.n (.n .z (.n .x .z)) .z))))=Nq OY:=by kernel_rfl
theorem iX:ae RO Tryz.prog 155 xa:=bt (RM _) (aid Cg <| aA) Tryz.func155 (by kernel_rfl)
def qy (RN o7:Sm O):Sm O:=fun xs h=>
 bif Nat.beq xs.length 3 then
 (AV.aT (xs.getD 0 .u)).bind fun p0=>
 (AV.ag .i64 (xs.getD 1 .u)).bind fun n1=>
 (AV.ag .i64 (xs.getD 2 .u)).bind fun n2=>
 ((bif ((Option.isNone p0) == false) then
 some ([(.b (decide (n1<0)))],h)
 else some ([(.b true)],h)):Option (List AV × AH O)).bind fun r3=>
 (AV.aV (r3.1.getD 0 .u)).bind fun b4=>
 ((bif (b4 == false) then
 some ([(.b (decide (n1 ≥ 2)))],r3.2)
 else some ([(.b true)],r3.2)):Option (List AV × AH O)).bind fun r5=>
 (AV.aV (r5.1.getD 0 .u)).bind fun b6=>
 ((bif (b6 == false) then
 some ([(.b (decide (n2<1)))],r5.2)
 else some ([(.b true)],r5.2)):Option (List AV × AH O)).bind fun r7=>
 (AV.aV (r7.1.getD 0 .u)).bind fun b8=>
 (bif b8 then
 none
 else Option.bind p0 fun q9=>
 (bif ((decide ((0:Int) ≤ n1)) && (decide (n1<2))) then
 (r7.2.ld q9.1 (q9.2+(n1.toNat*2))).bind fun wP=>
 (AV.ag .u64 wP).bind fun dZ=>
 (r7.2.ld q9.1 ((q9.2+(n1.toNat*2))+1)).bind fun tw=>
 (AV.ag .u64 tw).bind fun fg=>
 Option.bind p0 fun vj=>
 (RN [(.i .u64 (IntKind.u64.wrap n2))] r7.2).bind fun ij=>
 (AV.asAgg 2 ij.1).bind fun XV=>
 (AV.ag .u64 (XV.getD 0 .u)).bind fun iO=>
 (AV.ag .u64 (XV.getD 1 .u)).bind fun jX=>
 (bc (ij.2.ld q9.1 (q9.2+(n1.toNat*2))) (some (.i .u64 dZ))).bind fun _=>
 (bc (ij.2.ld q9.1 ((q9.2+(n1.toNat*2))+1)) (some (.i .u64 fg))).bind fun _=>
 (o7 [(.agg [(.i .u64 dZ),(.i .u64 fg)]),(.agg [(.i .u64 iO),(.i .u64 jX)])] ij.2).bind fun r19=>
 (AV.aE 2 r19.1).bind fun c20=>
 (AV.asAgg 2 (c20.getD 0 .u)).bind fun Us=>
 (AV.ag .u64 (Us.getD 0 .u)).bind fun fC=>
 (AV.ag .u64 (Us.getD 1 .u)).bind fun qo=>
 (AV.aV (c20.getD 1 .u)).bind fun b24=>
 (bif ((decide ((0:Int) ≤ n1)) && (decide (n1<2))) then
 (r19.2.st vj.1 (vj.2+(n1.toNat*2)) [(.i .u64 fC),(.i .u64 qo)]).bind fun Vy=>
 some ((.aS []),Vy)
 else none)
 else none))
 else none
def mA:Sm O:=qy RL xa
theorem nD:aa Tryz.prog 277:=Tryz.call277
theorem As (RN o7:Sm O):run (O:=O) Tryz.prog [(257,RN),(155,o7)] Tryz.f277 (.n (.n (.g [(2,2,[(11,.one .b)]),(6,2,[(15,.one .b)]),(10,2,[(19,.one .b)])]) (.n .x .z)) (.d [] [0,1,2,3,4,5,6,7,8,9,15,16,10,11,12,13,14,17,18] [0,0,0,0,4,20,60,124,0,256,768,2044,4092,8188,8188,1,32769,114687,245759]))=qy RN o7:=by kernel_rfl
theorem ly:ae RO Tryz.prog 277 mA:=bt (As _ _) (af J7 EM <| af mz iX <| aA) Tryz.func277 (by kernel_rfl)
def zQ (RP RQ:Sm O):Sm O:=fun xs h=>
 bif Nat.beq xs.length 3 then
 (AV.aT (xs.getD 0 .u)).bind fun p0=>
 (AV.ag .i64 (xs.getD 1 .u)).bind fun n1=>
 (AV.ag .i64 (xs.getD 2 .u)).bind fun n2=>
 (RP [(.p p0),J n1,J n2,J 1] h).bind fun r3=>
 (AV.aE 2 r3.1).bind fun c4=>
 Is c4 0 fun l5=>I6 c4 1 fun n6=>(bif ((n6:Int) != 0) then
 none
 else Option.bind p0 fun q7=>
 (r3.2.ld q7.1 q7.2).bind fun w8=>
 (AV.aT w8).bind fun p9=>
 (RQ [(.p p9),J 0,J 1] r3.2).bind fun dw=>
 (AV.aE 0 dw.1).bind fun WD=>
 (bif (decide ((0:Int)<(l5.2:Int))) then
 (SA.ref l5.1).bind fun Kx=>
 (dw.2.ld Kx.1 Kx.2).bind fun tz=>
 (AV.ag .u64 tz).bind fun fW=>
 some ((.aS [(.i .u64 fW),J 0]),dw.2)
 else none))
 else none
def gU:Sm O:=zQ qe mA
theorem eW:aa Tryz.prog 281:=Tryz.call281
theorem Hs (RP RQ:Sm O):run (O:=O) Tryz.prog [(276,RP),(277,RQ)] Tryz.f281 (.n .z (.n .z (.n (.n .z (.n .x .z)) (.n .z .z))))=zQ RP RQ:=by kernel_rfl
theorem dN:ae RO Tryz.prog 281 gU:=bt (Hs _ _) (af qx nB <| af nD ly <| aA) Tryz.func281 (by kernel_rfl)
def uh (yS tA:Sm O):Sm O:=fun xs h=>
 bif Nat.beq xs.length 2 then
 (AV.aT (xs.getD 0 .u)).bind fun p0=>
 (AV.ag .i64 (xs.getD 1 .u)).bind fun n1=>
 ((bif ((decide (n1<1)) == false) then
 Option.bind p0 fun q2=>
 (h.ld q2.1 (q2.2+3)).bind fun w3=>
 (AV.ag .i64 w3).bind fun n4=>
 some ([(.b (decide (n1 > n4)))],h)
 else some ([(.b true)],h)):Option (List AV × AH O)).bind fun r5=>
 (AV.aV (r5.1.getD 0 .u)).bind fun b6=>
 (bif b6 then
 none
 else Option.bind p0 fun q7=>
 (r5.2.ld q7.1 q7.2).bind fun w8=>
 (AV.aT w8).bind fun p9=>
 Option.bind p0 fun nZ=>
 (r5.2.ld nZ.1 (nZ.2+1)).bind fun nm=>
 (AV.ag .i64 nm).bind fun dy=>
 (yS [(.p p0),J n1,(.i .i64 (-1))] r5.2).bind fun pZ=>
 (AV.ag .i64 pZ.1).bind fun fW=>
 (bc (pZ.2.ld q7.1 q7.2) (some (.p p9))).bind fun _=>
 (bc (pZ.2.ld nZ.1 (nZ.2+1)) (some (.i .i64 dy))).bind fun _=>
 (tA [(.p p9),J dy,J fW] pZ.2).bind fun ij=>
 (AV.aE 2 ij.1).bind fun XV=>
 (AV.ag .u64 (XV.getD 0 .u)).bind fun iO=>
 I6 XV 1 fun jX=>some ((.aS [(.i .u64 iO),(.b true)]),ij.2))
 else none
def qf:Sm O:=uh ke gU
theorem qz:aa Tryz.prog 318:=Tryz.call318
theorem DQ (yS tA:Sm O):run (O:=O) Tryz.prog [(313,yS),(281,tA)] Tryz.f318 (.n .z (.n (.n (.g [(2,6,[(17,.one .b)])]) (.n .x .z)) (.n (.d [] [0,1,2,3,4,5,6,7,8,9,10,11,12,13,14,15,16] [0,1,3,7,0,16,48,112,0,0,768,2047,4095,8191,8191,16383,65535]) .z)))=uh yS tA:=by kernel_rfl
theorem nE:ae RO Tryz.prog 318 qf:=bt (DQ _ _) (af iw fH <| af eW dN <| aA) Tryz.func318 (by kernel_rfl)
def sn (RR:Sm O):Sm O:=fun xs h=>
 bif Nat.beq xs.length 2 then
 (AV.aT (xs.getD 0 .u)).bind fun p0=>
 (AV.ag .i64 (xs.getD 1 .u)).bind fun n1=>
 (RR [(.p p0),J n1] h).bind fun r2=>
 (AV.aE 2 r2.1).bind fun c3=>
 (AV.ag .u64 (c3.getD 0 .u)).bind fun n4=>
 (AV.aV (c3.getD 1 .u)).bind fun b5=>
 ((bif (b5 == true) then
 some ([(.b (((bE .and .u64 n4 1):Int) == 1))],r2.2)
 else some ([(.b false)],r2.2)):Option (List AV × AH O)).bind fun r6=>
 (AV.aV (r6.1.getD 0 .u)).bind fun b7=>
 some ((.b b7),r6.2)
 else none
def ox:Sm O:=sn qf
theorem o8:aa Tryz.prog 320:=Tryz.call320
theorem Cs (RR:Sm O):run (O:=O) Tryz.prog [(318,RR)] Tryz.f320 (.n .z (.n .z (.n (.g [(1,3,[(18,.one .b)])]) .z)))=sn RR:=by kernel_rfl
theorem mB:ae RO Tryz.prog 320 ox:=bt (Cs _) (af qz nE <| aA) Tryz.func320 (by kernel_rfl)
def xb (RR:Sm O):Sm O:=fun xs h=>
 bif Nat.beq xs.length 2 then
 (AV.aT (xs.getD 0 .u)).bind fun p0=>
 (AV.ag .i64 (xs.getD 1 .u)).bind fun n1=>
 (RR [(.p p0),J n1] h).bind fun r2=>
 (AV.aE 2 r2.1).bind fun c3=>
 (AV.ag .u64 (c3.getD 0 .u)).bind fun n4=>
 (AV.aV (c3.getD 1 .u)).bind fun b5=>
 some ((.i .i64 (IntKind.i64.wrap (Int.fdiv n4 (2 ^ 1)))),r2.2)
 else none
def sq:Sm O:=xb qf
theorem sr:aa Tryz.prog 274:=Tryz.call274
theorem FT (RR:Sm O):run (O:=O) Tryz.prog [(318,RR)] Tryz.f274 (.n .z (.n .z .z))=xb RR:=by kernel_rfl
theorem pb:ae RO Tryz.prog 274 sq:=bt (FT _) (af qz nE <| aA) Tryz.func274 (by kernel_rfl)
def nF (RT RU:Sm O):Sm O:=fun xs h=>
 bif Nat.beq xs.length 2 then
 (AV.aT (xs.getD 0 .u)).bind fun p0=>
 (AV.ag .i64 (xs.getD 1 .u)).bind fun n1=>
 let v2:Int:=(IntKind.i64.wrap ((bE .and .i64 n1 1048575)+1))
 ((bif ((decide (n1<0)) == false) then
 Option.bind p0 fun q3=>
 (h.ld q3.1 q3.2).bind fun w4=>
 (AV.aT w4).bind fun p5=>
 (RT [(.p p5),J v2] h).bind fun r6=>
 (AV.aV r6.1).bind fun b7=>
 some ([(.b (!b7))],r6.2)
 else some ([(.b true)],h)):Option (List AV × AH O)).bind fun r8=>
 (AV.aV (r8.1.getD 0 .u)).bind fun b9=>
 ((bif (b9 == false) then
 Option.bind p0 fun nZ=>
 (r8.2.ld nZ.1 nZ.2).bind fun nm=>
 (AV.aT nm).bind fun p12=>
 (RU [(.p p12),J v2] r8.2).bind fun pZ=>
 (AV.ag .i64 pZ.1).bind fun fW=>
 some ([(.b ((fW:Int) != (Int.fdiv n1 (2 ^ 20))))],pZ.2)
 else some ([(.b true)],r8.2)):Option (List AV × AH O)).bind fun ij=>
 (AV.aV (ij.1.getD 0 .u)).bind fun WN=>
 (bif WN then
 none
 else some ((.aS [J v2,J 0]),ij.2))
 else none
def jR:Sm O:=nF ox sq
theorem lz:aa Tryz.prog 278:=Tryz.call278
theorem xc (RT RU:Sm O):run (O:=O) Tryz.prog [(320,RT),(274,RU)] Tryz.f278 (.n .z (.n .z (.n (.n (.g [(2,7,[(20,.one .b)]),(11,9,[(31,.one .b)])]) (.n .x .z)) .z)))=nF RT RU:=by kernel_rfl
theorem jF:ae RO Tryz.prog 278 jR:=bt (xc _ _) (af o8 mB <| af sr pb <| aA) Tryz.func278 (by kernel_rfl)
def ss (RT:Sm O):Sm O:=fun xs h=>
 bif Nat.beq xs.length 3 then
 (AV.aT (xs.getD 0 .u)).bind fun p0=>
 (AV.ag .i64 (xs.getD 1 .u)).bind fun n1=>
 (AV.ag .i64 (xs.getD 2 .u)).bind fun n2=>
 (RT [(.p p0),J n1] h).bind fun r3=>
 (AV.aV r3.1).bind fun b4=>
 (bif (!b4) then
 none
 else ((bif ((decide (n2<0)) == false) then
 Option.bind p0 fun q5=>
 (r3.2.ld q5.1 (q5.2+2)).bind fun w6=>
 (AV.ag .i64 w6).bind fun n7=>
 some ([(.b (decide (n2 ≥ n7)))],r3.2)
 else some ([(.b true)],r3.2)):Option (List AV × AH O)).bind fun r8=>
 (AV.aV (r8.1.getD 0 .u)).bind fun b9=>
 (bif b9 then
 none
 else some (J 0,r8.2)))
 else none
def oy:Sm O:=ss ox
theorem pc:aa Tryz.prog 314:=Tryz.call314
theorem Ct (RT:Sm O):run (O:=O) Tryz.prog [(320,RT)] Tryz.f314 (.n .z (.n (.n (.n .z (.n .x (.n (.g [(2,6,[(22,.one .b)])]) (.n .x .z)))) .z) .z))=ss RT:=by kernel_rfl
theorem mC:ae RO Tryz.prog 314 oy:=bt (Ct _) (af o8 mB <| aA) Tryz.func314 (by kernel_rfl)
def xd (RV yS tA:Sm O):Sm O:=fun xs h=>
 bif Nat.beq xs.length 3 then
 (AV.aT (xs.getD 0 .u)).bind fun p0=>
 (AV.ag .i64 (xs.getD 1 .u)).bind fun n1=>
 (AV.ag .i64 (xs.getD 2 .u)).bind fun n2=>
 (RV [(.p p0),J n1,J n2] h).bind fun r3=>
 (AV.ag .i64 r3.1).bind fun n4=>
 (bif ((n4:Int) != 0) then
 none
 else Option.bind p0 fun q5=>
 (r3.2.ld q5.1 q5.2).bind fun w6=>
 (AV.aT w6).bind fun p7=>
 Option.bind p0 fun q8=>
 (r3.2.ld q8.1 (q8.2+1)).bind fun w9=>
 (AV.ag .i64 w9).bind fun cQ=>
 (yS [(.p p0),J n1,J n2] r3.2).bind fun oq=>
 (AV.ag .i64 oq.1).bind fun dy=>
 (bc (oq.2.ld q5.1 q5.2) (some (.p p7))).bind fun _=>
 (bc (oq.2.ld q8.1 (q8.2+1)) (some (.i .i64 cQ))).bind fun _=>
 (tA [(.p p7),J cQ,J dy] oq.2).bind fun pZ=>
 (AV.aE 2 pZ.1).bind fun c14=>
 (AV.ag .u64 (c14.getD 0 .u)).bind fun gd=>
 I6 c14 1 fun jN=>some ((.aS [(.i .u64 gd),J jN]),pZ.2))
 else none
def cY:Sm O:=xd oy ke gU
theorem gu:aa Tryz.prog 279:=Tryz.call279
theorem FU (RV yS tA:Sm O):run (O:=O) Tryz.prog [(314,RV),(313,yS),(281,tA)] Tryz.f279 (.n .z (.n (.n .z (.n .z (.n .x .z))) (.n (.d [] [0,1,2,3,4,5,6,7,8,9,10,11,12,13,14,15,16] [0,1,3,7,0,16,48,112,0,0,0,1792,4095,8191,8191,32767,65535]) .z)))=xd RV yS tA:=by kernel_rfl
theorem eX:ae RO Tryz.prog 279 cY:=bt (FU _ _ _) (af pc mC <| af iw fH <| af eW dN <| aA) Tryz.func279 (by kernel_rfl)
def mD (RW Au:Sm O):Sm O:=fun xs h=>
 bif Nat.beq xs.length 2 then
 (AV.aT (xs.getD 0 .u)).bind fun p0=>
 (AV.ag .i64 (xs.getD 1 .u)).bind fun n1=>
 (RW [(.p p0),J n1] h).bind fun r2=>
 (AV.aE 2 r2.1).bind fun c3=>
 I6 c3 0 fun n4=>I6 c3 1 fun n5=>(bif ((n5:Int) != 0) then
 none
 else Option.bind p0 fun q6=>
 (r2.2.ld q6.1 q6.2).bind fun w7=>
 (AV.aT w7).bind fun p8=>
 (Au [(.p p8),J n4,J 0] r2.2).bind fun r9=>
 (AV.aE 2 r9.1).bind fun Gl=>
 (AV.ag .u64 (Gl.getD 0 .u)).bind fun dZ=>
 I6 Gl 1 fun dy=>some ((.aS [(.i .u64 dZ),J dy]),r9.2))
 else none
def pd:Sm O:=mD jR cY
theorem vu:aa Tryz.prog 226:=Tryz.call226
theorem vw (RW Au:Sm O):run (O:=O) Tryz.prog [(278,RW),(279,Au)] Tryz.f226 (.n .z (.n .z (.n (.n .z (.n .x .z)) (.n .z .z))))=mD RW Au:=by kernel_rfl
theorem su:ae RO Tryz.prog 226 pd:=bt (vw _ _) (af lz jF <| af gu eX <| aA) Tryz.func226 (by kernel_rfl)
def sv (afc:Sm O):Sm O:=fun xs h=>
 bif Nat.beq xs.length 2 then
 (AV.aT (xs.getD 0 .u)).bind fun p0=>
 (AV.ag .i64 (xs.getD 1 .u)).bind fun n1=>
 (bif (decide (n1 ≥ 0)) then
 Option.bind p0 fun q2=>
 (h.ld q2.1 (q2.2+1)).bind fun w3=>
 (AV.aT w3).bind fun p4=>
 (afc [(.p p4),J n1] h).bind fun r5=>
 (AV.aE 2 r5.1).bind fun c6=>
 (AV.ag .u64 (c6.getD 0 .u)).bind fun n7=>
 I6 c6 1 fun n8=>some ((.aS [(.i .u64 n7),J n8]),r5.2)
 else none)
 else none
def fS:Sm O:=sv pd
theorem pf:aa Tryz.prog 168:=Tryz.call168
theorem Cu (afc:Sm O):run (O:=O) Tryz.prog [(226,afc)] Tryz.f168 (.n .z (.n (.n .z (.n .z .x)) (.n (.d [] [0,1,2,3,4,5,6,7,8,9,10] [0,1,3,7,0,16,63,127,127,511,1023]) .z)))=sv afc:=by kernel_rfl
theorem mE:ae RO Tryz.prog 168 fS:=bt (Cu _) (af vu su <| aA) Tryz.func168 (by kernel_rfl)
def Cv:Sm O:=fun xs h=>
 bif Nat.beq xs.length 1 then
 (AV.asAgg 5 (xs.getD 0 .u)).bind fun c0=>
 I6 c0 0 fun n1=>I6 c0 1 fun n2=>I6 c0 2 fun n3=>I6 c0 3 fun n4=>(AV.aV (c0.getD 4 .u)).bind fun b5=>
 let h6:=h.bump 1
 let h7:=h6.put h.next (.cells true 47 [J n1,J n2,J n3,J n4,(.b b5)])
 (h7.ld (.n h.next) 0).bind fun w8=>
 (AV.ag .i64 w8).bind fun n9=>
 (h7.ld (.n h.next) 1).bind fun wP=>
 (AV.ag .i64 wP).bind fun dZ=>
 let v12:Int:=(IntKind.i64.wrap ((IntKind.i64.wrap (1+n9))+dZ))
 some (J v12,h7)
 else none
def rA:Sm O:=Cv
theorem oz:aa Tryz.prog 261:=Tryz.call261
theorem Je:run (O:=O) Tryz.prog [] Tryz.f261 (.n .z .z)=Cv:=by kernel_rfl
theorem kT:ae RO Tryz.prog 261 rA:=bt Je (aA) Tryz.func261 (by kernel_rfl)
def EN (RX Jf:Sm O):Sm O:=fun xs h=>
 bif Nat.beq xs.length 1 then
 (AV.asAgg 2 (xs.getD 0 .u)).bind fun c0=>
 I6 c0 0 fun n1=>I6 c0 1 fun n2=>let h3:=h.bump 1
 let h4:=h3.put h.next (.cells true 45 [J n1,J n2])
 (h4.ld (.n h.next) 0).bind fun w5=>
 (AV.ag .i64 w5).bind fun n6=>
 (h4.ld (.n h.next) 1).bind fun w7=>
 (AV.ag .i64 w7).bind fun n8=>
 (RX [(.agg [J n6,J n8])] h4).bind fun r9=>
 (AV.aV r9.1).bind fun b10=>
 (bif (!b10) then
 none
 else (r9.2.ld (.n h.next) 0).bind fun nm=>
 (AV.ag .i64 nm).bind fun dy=>
 (r9.2.ld (.n h.next) 1).bind fun tz=>
 (AV.ag .i64 tz).bind fun fW=>
 (Jf [(.agg [J dy,J fW,J 0,J 0,(.b false)])] r9.2).bind fun ij=>
 (AV.ag .i64 ij.1).bind fun jN=>
 some (J jN,ij.2))
 else none
def lA:Sm O:=EN o5 rA
theorem qg:aa Tryz.prog 217:=Tryz.call217
theorem K8 (RX Jf:Sm O):run (O:=O) Tryz.prog [(213,RX),(261,Jf)] Tryz.f217 (.n .z (.n (.n .z (.n .x .z)) .z))=EN RX Jf:=by kernel_rfl
theorem mF:ae RO Tryz.prog 217 lA:=bt (K8 _ _) (af zO ue <| af oz kT <| aA) Tryz.func217 (by kernel_rfl)
def EO (Ht:Sm O):Sm O:=fun xs h=>
 bif Nat.beq xs.length 2 then
 (AV.asAgg 2 (xs.getD 0 .u)).bind fun c0=>
 I6 c0 0 fun n1=>I6 c0 1 fun n2=>(AV.ag .i64 (xs.getD 1 .u)).bind fun n3=>
 let h4:=h.bump 1
 let h5:=h4.put h.next (.cells true 45 [J n1,J n2])
 (h5.ld (.n h.next) 0).bind fun w6=>
 (AV.ag .i64 w6).bind fun n7=>
 (h5.ld (.n h.next) 1).bind fun w8=>
 (AV.ag .i64 w8).bind fun n9=>
 (Ht [(.agg [J n7,J n9])] h5).bind fun dw=>
 (AV.ag .i64 dw.1).bind fun dZ=>
 some ((.b (decide (dZ > n3))),dw.2)
 else none
def Cw:Sm O:=EO lA
theorem zR:aa Tryz.prog 259:=Tryz.call259
theorem K9 (Ht:Sm O):run (O:=O) Tryz.prog [(217,Ht)] Tryz.f259 (.n .z .z)=EO Ht:=by kernel_rfl
theorem uj:ae RO Tryz.prog 259 Cw:=bt (K9 _) (af qg mF <| aA) Tryz.func259 (by kernel_rfl)
def Cx (Ht RY:Sm O):Sm O:=fun xs h=>
 bif Nat.beq xs.length 2 then
 (AV.asAgg 2 (xs.getD 0 .u)).bind fun c0=>
 I6 c0 0 fun n1=>I6 c0 1 fun n2=>(AV.ag .i64 (xs.getD 1 .u)).bind fun n3=>
 let h4:=h.bump 1
 let h5:=h4.put h.next (.cells true 45 [J n1,J n2])
 (h5.ld (.n h.next) 0).bind fun w6=>
 (AV.ag .i64 w6).bind fun n7=>
 (h5.ld (.n h.next) 1).bind fun w8=>
 (AV.ag .i64 w8).bind fun n9=>
 (Ht [(.agg [J n7,J n9])] h5).bind fun dw=>
 (AV.ag .i64 dw.1).bind fun dZ=>
 ((bif ((decide (dZ > 0)) == true) then
 (dw.2.ld (.n h.next) 0).bind fun tw=>
 (AV.ag .i64 tw).bind fun fg=>
 (dw.2.ld (.n h.next) 1).bind fun ou=>
 (AV.ag .i64 ou).bind fun gd=>
 (RY [(.agg [J fg,J gd]),J n3] dw.2).bind fun rn=>
 (AV.aV rn.1).bind fun b17=>
 some ([(.b b17)],rn.2)
 else some ([(.b false)],dw.2)):Option (List AV × AH O)).bind fun gb=>
 (AV.aV (gb.1.getD 0 .u)).bind fun b19=>
 (bif b19 then
 none
 else some (J dZ,gb.2))
 else none
def rB:Sm O:=Cx lA Cw
theorem Jg:aa Tryz.prog 214:=Tryz.call214
theorem Jh (Ht RY:Sm O):run (O:=O) Tryz.prog [(217,Ht),(259,RY)] Tryz.f214 (.n .z (.n .z (.n (.n (.g [(2,3,[(14,.one .b)])]) (.n .x .z)) .z)))=Cx Ht RY:=by kernel_rfl
theorem FW:ae RO Tryz.prog 214 rB:=bt (Jh _ _) (af qg mF <| af zR uj <| aA) Tryz.func214 (by kernel_rfl)
def mG:Sm O:=fun xs h=>
 bif Nat.beq xs.length 1 then
 (AV.aT (xs.getD 0 .u)).bind fun p0=>
 Option.bind p0 fun q1=>
 (h.ld q1.1 (q1.2+3)).bind fun w2=>
 (AV.ag .i64 w2).bind fun n3=>
 some (J n3,h)
 else none
def pg:Sm O:=mG
theorem vz:aa Tryz.prog 310:=Tryz.call310
theorem vA:run (O:=O) Tryz.prog [] Tryz.f310 (.n .z .z)=mG:=by kernel_rfl
theorem sw:ae RO Tryz.prog 310 pg:=bt vA (aA) Tryz.func310 (by kernel_rfl)
def kf:Sm O:=fun xs h=>
 bif Nat.beq xs.length 1 then
 (AV.aT (xs.getD 0 .u)).bind fun p0=>
 Option.bind p0 fun q1=>
 (h.ld q1.1 ((q1.2+1)+2)).bind fun w2=>
 (AV.ag .i64 w2).bind fun n3=>
 some (J n3,h)
 else none
def mH:Sm O:=kf
theorem sx:aa Tryz.prog 311:=Tryz.call311
theorem sy:run (O:=O) Tryz.prog [] Tryz.f311 (.n .z .z)=kf:=by kernel_rfl
theorem qh:ae RO Tryz.prog 311 mH:=bt sy (aA) Tryz.func311 (by kernel_rfl)
def nG (afd ab5:Sm O):Sm O:=fun xs h=>
 bif Nat.beq xs.length 1 then
 (AV.aT (xs.getD 0 .u)).bind fun p0=>
 Option.bind p0 fun q1=>
 (h.ld q1.1 q1.2).bind fun w2=>
 (AV.aT w2).bind fun p3=>
 Option.bind p0 fun q4=>
 (h.ld q4.1 (q4.2+1)).bind fun w5=>
 (AV.aT w5).bind fun p6=>
 Option.bind p0 fun q7=>
 (h.ld q7.1 (q7.2+2)).bind fun w8=>
 (AV.aT w8).bind fun p9=>
 (afd [(.p p3)] h).bind fun dw=>
 (AV.ag .i64 dw.1).bind fun dZ=>
 (bc (dw.2.ld q4.1 (q4.2+1)) (some (.p p6))).bind fun _=>
 (bc (dw.2.ld q7.1 (q7.2+2)) (some (.p p9))).bind fun _=>
 (ab5 [(.p p6)] dw.2).bind fun fa=>
 (AV.ag .i64 fa.1).bind fun fg=>
 (bc (fa.2.ld q7.1 (q7.2+2)) (some (.p p9))).bind fun _=>
 (ab5 [(.p p9)] fa.2).bind fun r14=>
 (AV.ag .i64 r14.1).bind fun gd=>
 let v16:Int:=(IntKind.i64.wrap (4*(IntKind.i64.wrap (fg+gd))))
 some ((.i .i64 (IntKind.i64.wrap (dZ+v16))),r14.2)
 else none
def qA:Sm O:=nG pg mH
theorem xe:aa Tryz.prog 268:=Tryz.call268
theorem xg (afd ab5:Sm O):run (O:=O) Tryz.prog [(310,afd),(311,ab5)] Tryz.f268 (.n .z (.n (.d [] [0,1,2,3,5,6,7,8,10,11,12,13,4,9,14,15,16,17,18] [0,1,3,7,15,0,32,96,224,511,0,1024,3072,7168,16383,32767,65535,131071,262143]) .z))=nG afd ab5:=by kernel_rfl
theorem tB:ae RO Tryz.prog 268 qA:=bt (xg _ _) (af vz sw <| af sx qh <| aA) Tryz.func268 (by kernel_rfl)
def uk (afe:Sm O):Sm O:=fun xs h=>
 bif Nat.beq xs.length 1 then
 (AV.aT (xs.getD 0 .u)).bind fun p0=>
 Option.bind p0 fun q1=>
 (h.ld q1.1 (q1.2+31)).bind fun w2=>
 (AV.ag .i64 w2).bind fun n3=>
 Option.bind p0 fun q4=>
 (h.ld q4.1 (q4.2+6)).bind fun w5=>
 (AV.aT w5).bind fun p6=>
 (afe [(.p p6)] h).bind fun r7=>
 (AV.ag .i64 r7.1).bind fun n8=>
 (bc (r7.2.ld q1.1 (q1.2+31)) (some (.i .i64 n3))).bind fun _=>
 some ((.i .i64 (IntKind.i64.wrap (n3+n8))),r7.2)
 else none
def dL:Sm O:=uk qA
theorem qB:aa Tryz.prog 220:=Tryz.call220
theorem DR (afe:Sm O):run (O:=O) Tryz.prog [(268,afe)] Tryz.f220 (.n .z (.n (.d [] [0,1,2,3,4,5,6,7,8,9,10] [0,1,3,7,0,16,48,112,240,511,1023]) .z))=uk afe:=by kernel_rfl
theorem nH:ae RO Tryz.prog 220 dL:=bt (DR _) (af xe tB <| aA) Tryz.func220 (by kernel_rfl)
def J8:Sm O:=fun xs h=>
 bif Nat.beq xs.length 3 then
 (AV.ag .i64 (xs.getD 0 .u)).bind fun n0=>
 (AV.ag .i64 (xs.getD 1 .u)).bind fun n1=>
 (AV.ag .i64 (xs.getD 2 .u)).bind fun n2=>
 ((bif ((decide ((if 0 > n0 then 0 else n0) > n2)) == false) then
 let v3:Int:=(IntKind.i64.wrap (n2 - (if 0 > n0 then 0 else n0)))
 some ([(.b (decide ((if 0 > n1 then 0 else n1) > v3)))],h)
 else some ([(.b true)],h)):Option (List AV × AH O)).bind fun r4=>
 (AV.aV (r4.1.getD 0 .u)).bind fun b5=>
 some ((.b b5),r4.2)
 else none
def Ji:Sm O:=J8
theorem EP:aa Tryz.prog 267:=Tryz.call267
theorem OZ:run (O:=O) Tryz.prog [] Tryz.f267 (.n .z (.n .z (.n (.g [(3,5,[(20,.one .b)])]) .z)))=J8:=by kernel_rfl
theorem zS:ae RO Tryz.prog 267 Ji:=bt OZ (aA) Tryz.func267 (by kernel_rfl)
def mI (w:Words O) (yT:Sm O):Sm O:=fun xs h=>
 bif Nat.beq xs.length 3 then
 (AV.asAgg 8 (xs.getD 0 .u)).bind fun c0=>
 w.U0 c0 fun n1 n2 n3 n4 n5 n6 n7 n8=>
 (AV.ag .i64 (xs.getD 1 .u)).bind fun n9=>
 (AV.ag .i64 (xs.getD 2 .u)).bind fun cQ=>
 let iM:=h.bump 1
 let G9:=iM.put h.next (.cells true 168 (P1 n1 n2 n3 n4 n5 n6 n7 n8))
 (G9.ld (.n h.next) 5).bind fun tz=>
 (AV.ag .i64 tz).bind fun fW=>
 (yT [J n9,J cQ,J fW] G9).bind fun ij=>
 (AV.aV ij.1).bind fun WN=>
 some ((.b WN),ij.2)
 else none
def uo (yT:Sm O):Sm O:=mI js yT
def kC:Sm O:=uo Ji
theorem DS:aa Tryz.prog 219:=Tryz.call219
theorem DT (yT:Sm O):run (O:=O) Tryz.prog [(267,yT)] Tryz.f219 (.n .z .z)=uo yT:=
 (show run (O:=O) Tryz.prog [(267,yT)] Tryz.f219 (.n .z .z)=mI jr yT by kernel_rfl).trans (congrArg (fun w=>mI w yT) se)
theorem Av:ae RO Tryz.prog 219 kC:=bt (DT _) (af EP zS <| aA) Tryz.func219 (by kernel_rfl)
def iY (w:Words O):Sm O:=fun xs h=>
 bif Nat.beq xs.length 1 then
 (AV.asAgg 8 (xs.getD 0 .u)).bind fun c0=>
 w.U0 c0 fun n1 n2 n3 n4 n5 n6 n7 n8=>
 let h9:=h.bump 1
 let gS:=h9.put h.next (.cells true 168 (P1 n1 n2 n3 n4 n5 n6 n7 n8))
 (gS.ld (.n h.next) 7).bind fun nm=>
 (AV.ag .i64 nm).bind fun dy=>
 (gS.ld (.n h.next) 5).bind fun tz=>
 (AV.ag .i64 tz).bind fun fW=>
 let v15:Int:=(IntKind.i64.wrap (Int.tdiv (if 0 > fW then 0 else fW) 2))
 some ((.b (decide (dy > v15))),gS)
 else none
def ph:Sm O:=iY js 
def gv:Sm O:=ph
theorem yU:aa Tryz.prog 221:=Tryz.call221
theorem yV:run (O:=O) Tryz.prog [] Tryz.f221 (.n .z .z)=ph:=
 (show run (O:=O) Tryz.prog [] Tryz.f221 (.n .z .z)=iY jr  by kernel_rfl).trans (congrArg (fun w=>iY w) se)
theorem vB:ae RO Tryz.prog 221 gv:=bt yV (aA) Tryz.func221 (by kernel_rfl)
def ur:Sm O:=fun xs h=>
 bif Nat.beq xs.length 2 then
 (AV.aT (xs.getD 0 .u)).bind fun p0=>
 (AV.ag .i64 (xs.getD 1 .u)).bind fun n1=>
 let h2:=h.bump 1
 let h3:=h2.put h.next (.cells true 177 [(.i .u64 0),(.i .u64 0)])
 ((bif ((Option.isNone p0) == false) then
 some ([(.b (decide (n1<0)))],h3)
 else some ([(.b true)],h3)):Option (List AV × AH O)).bind fun r4=>
 (AV.aV (r4.1.getD 0 .u)).bind fun b5=>
 ((bif (b5 == false) then
 some ([(.b (decide (n1 ≥ 2)))],r4.2)
 else some ([(.b true)],r4.2)):Option (List AV × AH O)).bind fun r6=>
 (AV.aV (r6.1.getD 0 .u)).bind fun b7=>
 (bif b7 then
 none
 else Option.bind p0 fun q8=>
 (bif ((decide ((0:Int) ≤ n1)) && (decide (n1<2))) then
 (r6.2.ld q8.1 (q8.2+(n1.toNat*2))).bind fun w9=>
 (AV.ag .u64 w9).bind fun cQ=>
 (r6.2.ld q8.1 ((q8.2+(n1.toNat*2))+1)).bind fun nm=>
 (AV.ag .u64 nm).bind fun dy=>
 (r6.2.st (.n h.next) 0 [(.i .u64 cQ),(.i .u64 dy)]).bind fun nk=>
 (nk.ld (.n h.next) 0).bind fun ou=>
 (AV.ag .u64 ou).bind fun gd=>
 (nk.ld (.n h.next) 1).bind fun vl=>
 (AV.ag .u64 vl).bind fun iO=>
 some ((.agg [(.i .u64 gd),(.i .u64 iO)]),nk)
 else none))
 else none
def zT:Sm O:=ur
theorem DU:aa Tryz.prog 211:=Tryz.call211
theorem DV:run (O:=O) Tryz.prog [] Tryz.f211 (.n .z (.n (.n (.g [(2,2,[(10,.one .b)]),(6,2,[(14,.one .b)])]) (.n .x .z)) .z))=ur:=by kernel_rfl
theorem Aw:ae RO Tryz.prog 211 zT:=bt DV (aA) Tryz.func211 (by kernel_rfl)
def pj (ab6 o7:Sm O):Sm O:=fun xs h=>
 bif Nat.beq xs.length 1 then
 (AV.aT (xs.getD 0 .u)).bind fun p0=>
 let h1:=h.bump 1
 let h2:=h1.put h.next (.cells true 177 [(.i .u64 0),(.i .u64 0)])
 let h3:=h2.bump 1
 (ab6 [(.p p0),J 0] h3).bind fun r4=>
 (AV.asAgg 2 r4.1).bind fun c5=>
 (AV.ag .u64 (c5.getD 0 .u)).bind fun n6=>
 (AV.ag .u64 (c5.getD 1 .u)).bind fun n7=>
 (ab6 [(.p p0),J 1] r4.2).bind fun r8=>
 (AV.asAgg 2 r8.1).bind fun c9=>
 (AV.ag .u64 (c9.getD 0 .u)).bind fun cQ=>
 (AV.ag .u64 (c9.getD 1 .u)).bind fun dZ=>
 (o7 [(.agg [(.i .u64 n6),(.i .u64 n7)]),(.agg [(.i .u64 cQ),(.i .u64 dZ)])] r8.2).bind fun fa=>
 (AV.aE 2 fa.1).bind fun c13=>
 (AV.asAgg 2 (c13.getD 0 .u)).bind fun c14=>
 (AV.ag .u64 (c14.getD 0 .u)).bind fun gd=>
 (AV.ag .u64 (c14.getD 1 .u)).bind fun jN=>
 (AV.aV (c13.getD 1 .u)).bind fun b17=>
 let qp:=fa.2.put h2.next (.cells true 177 [(.i .u64 0),(.i .u64 0)])
 (qp.st (.n h2.next) 0 [(.i .u64 gd),(.i .u64 jN)]).bind fun Oc=>
 (Oc.ld (.n h2.next) 0).bind fun DL=>
 (AV.ag .u64 DL).bind fun vr=>
 (Oc.ld (.n h2.next) 1).bind fun IZ=>
 (AV.ag .u64 IZ).bind fun qo=>
 (Oc.st (.n h.next) 0 [(.i .u64 vr),(.i .u64 qo)]).bind fun P'=>
 (P'.ld (.n h.next) 0).bind fun FL=>
 (AV.ag .u64 FL).bind fun ji=>
 (P'.ld (.n h.next) 1).bind fun yM=>
 (AV.ag .u64 yM).bind fun jo=>
 some ((.agg [(.i .u64 ji),(.i .u64 jo)]),P')
 else none
def kU:Sm O:=pj zT xa
theorem mJ:aa Tryz.prog 157:=Tryz.call157
theorem yW (ab6 o7:Sm O):run (O:=O) Tryz.prog [(211,ab6),(155,o7)] Tryz.f157 (.n .z (.n .z .z))=pj ab6 o7:=by kernel_rfl
theorem kg:ae RO Tryz.prog 157 kU:=bt (yW _ _) (af DU Aw <| af mz iX <| aA) Tryz.func157 (by kernel_rfl)
def pk:Sm O:=fun xs h=>
 bif Nat.beq xs.length 1 then
 (AV.aT (xs.getD 0 .u)).bind fun p0=>
 Option.bind p0 fun q1=>
 (h.ld q1.1 (q1.2+3)).bind fun w2=>
 (AV.ag .i64 w2).bind fun n3=>
 some (J n3,h)
 else none
def sA:Sm O:=pk
theorem yX:aa Tryz.prog 291:=Tryz.call291
theorem yY:run (O:=O) Tryz.prog [] Tryz.f291 (.n .z .z)=pk:=by kernel_rfl
theorem vC:ae RO Tryz.prog 291 sA:=bt yY (aA) Tryz.func291 (by kernel_rfl)
def Nr:Sm O:=fun xs h=>
 bif Nat.beq xs.length 2 then
 (AV.aT (xs.getD 0 .u)).bind fun p0=>
 (AV.Qt (xs.getD 1 .u)).bind fun f1=>
 (bif (Option.isNone f1) then
 none
 else let h2:=h.bump 1
 let h3:=h2.put h.next (.cells true 401 [(.p p0),(.fn f1),J 0])
 some ((.p (some ((.n h.next),0))),h3))
 else none
def Ut:Sm O:=Nr
theorem RZ:aa Tryz.prog 292:=Tryz.call292
theorem R0:run (O:=O) Tryz.prog [] Tryz.f292 (.n .z (.n (.n .z (.n .x .z)) .z))=Nr:=by kernel_rfl
theorem Ns:ae RO Tryz.prog 292 Ut:=bt R0 (aA) Tryz.func292 (by kernel_rfl)
def qC:Sm O:=fun xs h=>
 bif Nat.beq xs.length 1 then
 (AV.aT (xs.getD 0 .u)).bind fun p0=>
 Option.bind p0 fun q1=>
 (h.ld q1.1 (q1.2+1)).bind fun w2=>
 (AV.aT w2).bind fun p3=>
 some ((.p p3),h)
 else none
def eY:Sm O:=qC
theorem eJ:aa Tryz.prog 239:=Tryz.call239
theorem Ax:run (O:=O) Tryz.prog [] Tryz.f239 (.n .z .z)=qC:=by kernel_rfl
theorem dG:ae RO Tryz.prog 239 eY:=bt Ax (aA) Tryz.func239 (by kernel_rfl)
def xh:Sm O:=fun xs h=>
 bif Nat.beq xs.length 1 then
 (AV.aT (xs.getD 0 .u)).bind fun p0=>
 Option.bind p0 fun q1=>
 (h.ld q1.1 ((q1.2+1)+1)).bind fun w2=>
 (AV.ag .i64 w2).bind fun n3=>
 some (J n3,h)
 else none
def mK:Sm O:=xh
theorem kV:aa Tryz.prog 327:=Tryz.call327
theorem FX:run (O:=O) Tryz.prog [] Tryz.f327 (.n .z .z)=xh:=by kernel_rfl
theorem iZ:ae RO Tryz.prog 327 mK:=bt FX (aA) Tryz.func327 (by kernel_rfl)
def uv (yO:Sm O):Sm O:=fun xs h=>
 bif Nat.beq xs.length 2 then
 (AV.aT (xs.getD 0 .u)).bind fun p0=>
 (AV.ag .i64 (xs.getD 1 .u)).bind fun n1=>
 Option.bind p0 fun q2=>
 (h.ld q2.1 (q2.2+5)).bind fun w3=>
 (AV.aV w3).bind fun b4=>
 (bif b4 then
 none
 else Option.bind p0 fun q5=>
 (h.ld q5.1 q5.2).bind fun w6=>
 (AV.aT w6).bind fun p7=>
 (yO [(.p p7),J n1] h).bind fun r8=>
 (AV.aE 2 r8.1).bind fun c9=>
 I6 c9 0 fun cQ=>I6 c9 1 fun dZ=>(bif ((dZ:Int) != 0) then
 none
 else Option.bind p0 fun Kx=>
 (r8.2.ld Kx.1 (Kx.2+1)).bind fun tz=>
 (AV.ag .i64 tz).bind fun fW=>
 (r8.2.ld Kx.1 ((Kx.2+1)+1)).bind fun tx=>
 (AV.ag .i64 tx).bind fun jN=>
 Option.bind p0 fun Lo=>
 (r8.2.st Lo.1 (Lo.2+3) [J fW,J jN]).bind fun qp=>
 Option.bind p0 fun Rc=>
 (qp.st Rc.1 (Rc.2+1) [J cQ,J 0]).bind fun kQ=>
 Option.bind p0 fun MM=>
 (kQ.st MM.1 (MM.2+5) [(.b true)]).bind fun H5=>
 some (J 0,H5)))
 else none
def zU:Sm O:=uv kc
theorem DW:aa Tryz.prog 326:=Tryz.call326
theorem DX (yO:Sm O):run (O:=O) Tryz.prog [(151,yO)] Tryz.f326 (.n .z (.n (.n .z (.n .x .z)) (.n .z (.n (.n .z (.n .x .z)) (.n .z .z)))))=uv yO:=by kernel_rfl
theorem Ay:ae RO Tryz.prog 326 zU:=bt (DX _) (af iv fE <| aA) Tryz.func326 (by kernel_rfl)
def po:Sm O:=fun xs h=>
 bif Nat.beq xs.length 1 then
 (AV.aT (xs.getD 0 .u)).bind fun p0=>
 Option.bind p0 fun q1=>
 (h.ld q1.1 ((q1.2+1)+1)).bind fun w2=>
 (AV.aT w2).bind fun p3=>
 some ((.p p3),h)
 else none
def gw:Sm O:=po
theorem gx:aa Tryz.prog 328:=Tryz.call328
theorem yZ:run (O:=O) Tryz.prog [] Tryz.f328 (.n .z .z)=po:=by kernel_rfl
theorem fk:ae RO Tryz.prog 328 gw:=bt yZ (aA) Tryz.func328 (by kernel_rfl)
def sB (Hq:Sm O):Sm O:=fun xs h=>
 bif Nat.beq xs.length 3 then
 (AV.aT (xs.getD 0 .u)).bind fun p0=>
 (AV.ag .i64 (xs.getD 1 .u)).bind fun n1=>
 (AV.ag .i64 (xs.getD 2 .u)).bind fun n2=>
 let h3:=h.bump 1
 let h4:=h3.put h.next (.cells true 368 [(.p none),J 0,J 0,J 0,J 0])
 Option.bind p0 fun q5=>
 (h4.ld q5.1 q5.2).bind fun w6=>
 (AV.aT w6).bind fun p7=>
 Option.bind p0 fun q8=>
 (h4.ld q8.1 (q8.2+1)).bind fun w9=>
 (AV.ag .i64 w9).bind fun cQ=>
 (Hq [(.p p0)] h4).bind fun oq=>
 (AV.ag .i64 oq.1).bind fun dy=>
 (bc (oq.2.ld q5.1 q5.2) (some (.p p7))).bind fun _=>
 (bc (oq.2.ld q8.1 (q8.2+1)) (some (.i .i64 cQ))).bind fun _=>
 (oq.2.st (.n h.next) 0 [(.p p7),J cQ,J dy,(.i .i64 (IntKind.i64.wrap (n1+1))),(.i .i64 (IntKind.i64.wrap (n2+1)))]).bind fun nk=>
 (nk.ld (.n h.next) 0).bind fun ou=>
 (AV.aT ou).bind fun p15=>
 (nk.ld (.n h.next) 1).bind fun vl=>
 (AV.ag .i64 vl).bind fun iO=>
 (nk.ld (.n h.next) 2).bind fun Ce=>
 (AV.ag .i64 Ce).bind fun kN=>
 (nk.ld (.n h.next) 3).bind fun DL=>
 (AV.ag .i64 DL).bind fun vr=>
 (nk.ld (.n h.next) 4).bind fun IZ=>
 (AV.ag .i64 IZ).bind fun qo=>
 some ((.agg [(.p p15),J iO,J kN,J vr,J qo]),nk)
 else none
def oA:Sm O:=sB jt
theorem pq:aa Tryz.prog 315:=Tryz.call315
theorem Cy (Hq:Sm O):run (O:=O) Tryz.prog [(359,Hq)] Tryz.f315 (.n .z (.n (.d [] [0,1,2,3,4,5,6,7,8,10,11,12,13,9,14,15] [0,1,3,7,0,16,48,112,0,256,0,1024,0,4096,16383,32767]) .z))=sB Hq:=by kernel_rfl
theorem mL:ae RO Tryz.prog 315 oA:=bt (Cy _) (af iV gr <| aA) Tryz.func315 (by kernel_rfl)
def pr (R1:Sm O):Sm O:=fun xs h=>
 bif Nat.beq xs.length 1 then
 (AV.aT (xs.getD 0 .u)).bind fun p0=>
 let h1:=h.bump 1
 let h2:=h1.put h.next (.cells true 368 [(.p none),J 0,J 0,J 0,J 0])
 Option.bind p0 fun q3=>
 (h2.ld q3.1 (q3.2+1)).bind fun w4=>
 (AV.aT w4).bind fun p5=>
 (R1 [(.p p5),J 2,J 3] h2).bind fun r6=>
 (AV.asAgg 5 r6.1).bind fun c7=>
 (AV.aT (c7.getD 0 .u)).bind fun p8=>
 I6 c7 1 fun n9=>I6 c7 2 fun cQ=>I6 c7 3 fun dZ=>I6 c7 4 fun dy=>(r6.2.st (.n h.next) 0 [(.p p8),J n9,J cQ,J dZ,J dy]).bind fun nk=>
 (nk.ld (.n h.next) 0).bind fun ou=>
 (AV.aT ou).bind fun p15=>
 (nk.ld (.n h.next) 1).bind fun vl=>
 (AV.ag .i64 vl).bind fun iO=>
 (nk.ld (.n h.next) 2).bind fun Ce=>
 (AV.ag .i64 Ce).bind fun kN=>
 (nk.ld (.n h.next) 3).bind fun DL=>
 (AV.ag .i64 DL).bind fun vr=>
 (nk.ld (.n h.next) 4).bind fun IZ=>
 (AV.ag .i64 IZ).bind fun qo=>
 some ((.agg [(.p p15),J iO,J kN,J vr,J qo]),nk)
 else none
def gy:Sm O:=pr oA
theorem gz:aa Tryz.prog 307:=Tryz.call307
theorem y5 (R1:Sm O):run (O:=O) Tryz.prog [(315,R1)] Tryz.f307 (.n .z .z)=pr R1:=by kernel_rfl
theorem fo:ae RO Tryz.prog 307 gy:=bt (y5 _) (af pq mL <| aA) Tryz.func307 (by kernel_rfl)
def mM:Sm O:=fun xs h=>
 bif Nat.beq xs.length 2 then
 (AV.ag .i64 (xs.getD 0 .u)).bind fun n0=>
 ((bif ((decide (n0 ≥ 0)) == true) then
 (AV.lN (xs.getD 1 .u)).bind fun q1=>
 (h.ld q1.1 (q1.2+2)).bind fun w2=>
 (AV.ag .i64 w2).bind fun n3=>
 some ([(.b (decide (n0<n3)))],h)
 else some ([(.b false)],h)):Option (List AV × AH O)).bind fun r4=>
 (AV.aV (r4.1.getD 0 .u)).bind fun b5=>
 some ((.b b5),r4.2)
 else none
def pv:Sm O:=mM
theorem vD:aa Tryz.prog 388:=Tryz.call388
theorem vE:run (O:=O) Tryz.prog [] Tryz.f388 (.n .z (.n (.g [(2,4,[(11,.one .b)])]) .z))=mM:=by kernel_rfl
theorem sC:ae RO Tryz.prog 388 pv:=bt vE (aA) Tryz.func388 (by kernel_rfl)
def pw (ab7:Sm O):Sm O:=fun xs h=>
 bif Nat.beq xs.length 1 then
 (AV.asAgg 5 (xs.getD 0 .u)).bind fun c0=>
 (AV.aT (c0.getD 0 .u)).bind fun p1=>
 I6 c0 1 fun n2=>I6 c0 2 fun n3=>I6 c0 3 fun n4=>I6 c0 4 fun n5=>let h6:=h.bump 1
 let h7:=h6.put h.next (.cells true 368 [(.p p1),J n2,J n3,J n4,J n5])
 (h7.ld (.n h.next) 0).bind fun w8=>
 (AV.aT w8).bind fun p9=>
 ((bif ((!(Option.isNone p9)) == true) then
 (h7.ld (.n h.next) 2).bind fun wP=>
 (AV.ag .i64 wP).bind fun dZ=>
 some ([(.b (decide (dZ ≥ 2)))],h7)
 else some ([(.b false)],h7)):Option (List AV × AH O)).bind fun fa=>
 (AV.aV (fa.1.getD 0 .u)).bind fun Zs=>
 ((bif (Zs == true) then
 (fa.2.ld (.n h.next) 2).bind fun ou=>
 (AV.ag .i64 ou).bind fun gd=>
 some ([(.b (decide (gd ≤ 64)))],fa.2)
 else some ([(.b false)],fa.2)):Option (List AV × AH O)).bind fun rn=>
 (AV.aV (rn.1.getD 0 .u)).bind fun b17=>
 ((bif (b17 == true) then
 (rn.2.ld (.n h.next) 3).bind fun Ce=>
 (AV.ag .i64 Ce).bind fun kN=>
 (ab7 [J kN,(.p (some ((.n h.next),0)))] rn.2).bind fun kO=>
 (AV.aV kO.1).bind fun b21=>
 some ([(.b b21)],kO.2)
 else some ([(.b false)],rn.2)):Option (List AV × AH O)).bind fun tY=>
 (AV.aV (tY.1.getD 0 .u)).bind fun b23=>
 ((bif (b23 == true) then
 (tY.2.ld (.n h.next) 4).bind fun OJ=>
 (AV.ag .i64 OJ).bind fun wj=>
 (ab7 [J wj,(.p (some ((.n h.next),0)))] tY.2).bind fun Ll=>
 (AV.aV Ll.1).bind fun b27=>
 some ([(.b b27)],Ll.2)
 else some ([(.b false)],tY.2)):Option (List AV × AH O)).bind fun Uc=>
 (AV.aV (Uc.1.getD 0 .u)).bind fun b29=>
 ((bif (b29 == true) then
 (Uc.2.ld (.n h.next) 3).bind fun w30=>
 (AV.ag .i64 w30).bind fun SH=>
 (Uc.2.ld (.n h.next) 4).bind fun w32=>
 (AV.ag .i64 w32).bind fun RH=>
 some ([(.b ((SH:Int) != RH))],Uc.2)
 else some ([(.b false)],Uc.2)):Option (List AV × AH O)).bind fun r34=>
 (AV.aV (r34.1.getD 0 .u)).bind fun b35=>
 some ((.b b35),r34.2)
 else none
def gA:Sm O:=pw pv
theorem gB:aa Tryz.prog 360:=Tryz.call360
theorem y6 (ab7:Sm O):run (O:=O) Tryz.prog [(388,ab7)] Tryz.f360 (.n .z (.n .z (.n (.g [(3,3,[(12,.one .b)]),(8,3,[(17,.one .b)]),(13,4,[(23,.one .b)]),(19,4,[(29,.one .b)]),(25,5,[(36,.one .b)])]) .z)))=pw ab7:=by kernel_rfl
theorem fq:ae RO Tryz.prog 360 gA:=bt (y6 _) (af vD sC <| aA) Tryz.func360 (by kernel_rfl)
def uw:Sm O:=fun xs h=>
 bif Nat.beq xs.length 3 then
 (AV.asAgg 5 (xs.getD 0 .u)).bind fun c0=>
 (AV.aT (c0.getD 0 .u)).bind fun p1=>
 I6 c0 1 fun n2=>I6 c0 2 fun n3=>I6 c0 3 fun n4=>I6 c0 4 fun n5=>(AV.ag .i64 (xs.getD 1 .u)).bind fun n6=>
 (AV.ag .i64 (xs.getD 2 .u)).bind fun n7=>
 let h8:=h.bump 1
 let h9:=h8.put h.next (.cells true 368 [(.p p1),J n2,J n3,J n4,J n5])
 (h9.ld (.n h.next) 2).bind fun wP=>
 (AV.ag .i64 wP).bind fun dZ=>
 let v12:Int:=(IntKind.i64.wrap ((IntKind.i64.wrap (n6 - 1))*dZ))
 some ((.i .i64 (IntKind.i64.wrap (v12+n7))),h9)
 else none
def zV:Sm O:=uw
theorem DY:aa Tryz.prog 362:=Tryz.call362
theorem DZ:run (O:=O) Tryz.prog [] Tryz.f362 (.n .z .z)=uw:=by kernel_rfl
theorem Az:ae RO Tryz.prog 362 zV:=bt DZ (aA) Tryz.func362 (by kernel_rfl)
def xi (RP RQ:Sm O):Sm O:=fun xs h=>
 bif Nat.beq xs.length 4 then
 (AV.aT (xs.getD 0 .u)).bind fun p0=>
 (AV.ag .i64 (xs.getD 1 .u)).bind fun n1=>
 (AV.ag .i64 (xs.getD 2 .u)).bind fun n2=>
 (AV.ag .u64 (xs.getD 3 .u)).bind fun n3=>
 (RP [(.p p0),J n1,J n2,J 1] h).bind fun r4=>
 (AV.aE 2 r4.1).bind fun c5=>
 Is c5 0 fun l6=>I6 c5 1 fun n7=>(bif ((n7:Int) != 0) then
 none
 else Option.bind p0 fun q8=>
 (r4.2.ld q8.1 q8.2).bind fun w9=>
 (AV.aT w9).bind fun Vz=>
 (RQ [(.p Vz),J 1,J 1] r4.2).bind fun oq=>
 (AV.aE 0 oq.1).bind fun c12=>
 (bif (decide ((0:Int)<(l6.2:Int))) then
 (SA.ref l6.1).bind fun Bu=>
 (oq.2.st Bu.1 Bu.2 [(.i .u64 n3)]).bind fun tu=>
 some (J 0,tu)
 else none))
 else none
def fT:Sm O:=xi qe mA
theorem eC:aa Tryz.prog 224:=Tryz.call224
theorem FY (RP RQ:Sm O):run (O:=O) Tryz.prog [(276,RP),(277,RQ)] Tryz.f224 (.n .z (.n .z (.n (.n .z (.n .x .z)) (.n .z (.n .z .z)))))=xi RP RQ:=by kernel_rfl
theorem dC:ae RO Tryz.prog 224 fT:=bt (FY _ _) (af qx nB <| af nD ly <| aA) Tryz.func224 (by kernel_rfl)
def sD (afg sE:Sm O):Sm O:=fun xs h=>
 bif Nat.beq xs.length 4 then
 (AV.asAgg 5 (xs.getD 0 .u)).bind fun c0=>
 (AV.aT (c0.getD 0 .u)).bind fun p1=>
 I6 c0 1 fun n2=>I6 c0 2 fun n3=>I6 c0 3 fun n4=>I6 c0 4 fun n5=>(AV.ag .i64 (xs.getD 1 .u)).bind fun n6=>
 (AV.ag .i64 (xs.getD 2 .u)).bind fun n7=>
 (AV.ag .i64 (xs.getD 3 .u)).bind fun n8=>
 let h9:=h.bump 1
 let gS:=h9.put h.next (.cells true 368 [(.p p1),J n2,J n3,J n4,J n5])
 (gS.ld (.n h.next) 0).bind fun nm=>
 (AV.aT nm).bind fun p12=>
 (gS.ld (.n h.next) 1).bind fun tz=>
 (AV.ag .i64 tz).bind fun fW=>
 (gS.ld (.n h.next) 0).bind fun tx=>
 (AV.aT tx).bind fun WT=>
 (gS.ld (.n h.next) 1).bind fun vk=>
 (AV.ag .i64 vk).bind fun jX=>
 (gS.ld (.n h.next) 2).bind fun I5=>
 (AV.ag .i64 I5).bind fun nv=>
 (gS.ld (.n h.next) 3).bind fun yF=>
 (AV.ag .i64 yF).bind fun fC=>
 (gS.ld (.n h.next) 4).bind fun I1=>
 (AV.ag .i64 I1).bind fun rZ=>
 (afg [(.agg [(.p WT),J jX,J nv,J fC,J rZ]),J n6,J n7] gS).bind fun Dz=>
 (AV.ag .i64 Dz.1).bind fun ji=>
 (bc (Dz.2.ld (.n h.next) 0) (some (.p p12))).bind fun _=>
 (bc (Dz.2.ld (.n h.next) 1) (some (.i .i64 fW))).bind fun _=>
 (sE [(.p p12),J fW,J ji,(.i .u64 (IntKind.u64.wrap n8))] Dz.2).bind fun rq=>
 (AV.ag .i64 rq.1).bind fun jo=>
 some ((.aS []),rq.2)
 else none
def oB:Sm O:=sD zV fT
theorem px:aa Tryz.prog 317:=Tryz.call317
theorem Cz (afg sE:Sm O):run (O:=O) Tryz.prog [(362,afg),(224,sE)] Tryz.f317 (.n .z (.d [] [0,1,2,3,4,5,6,8,9,7,10] [0,1,0,4,0,0,0,112,0,256,1023]))=sD afg sE:=by kernel_rfl
theorem mN:ae RO Tryz.prog 317 oB:=bt (Cz _ _) (af DY Az <| af eC dC <| aA) Tryz.func317 (by kernel_rfl)
def qD (Hu R2:Sm O):Sm O:=fun xs h=>
 bif Nat.beq xs.length 3 then
 (AV.asAgg 5 (xs.getD 0 .u)).bind fun c0=>
 (AV.aT (c0.getD 0 .u)).bind fun p1=>
 I6 c0 1 fun n2=>I6 c0 2 fun n3=>I6 c0 3 fun n4=>I6 c0 4 fun n5=>(AV.asAgg 3 (xs.getD 1 .u)).bind fun c6=>
 I6 c6 0 fun n7=>I6 c6 1 fun n8=>I6 c6 2 fun n9=>(AV.asAgg 3 (xs.getD 2 .u)).bind fun Gl=>
 I6 Gl 0 fun dZ=>I6 Gl 1 fun dy=>I6 Gl 2 fun fg=>let tu:=h.bump 4
 let oY:=tu.put h.next (.cells true 368 [(.p p1),J n2,J n3,J n4,J n5])
 let zI:=oY.put (h.next+1) (.cells true 280 [J n7,J n8,J n9])
 let Ln:=zI.put ((h.next+1)+1) (.cells true 280 [J dZ,J dy,J fg])
 let qp:=Ln.put (((h.next+1)+1)+1) (.cells true 280 [J 0,J 0,J 0])
 (qp.ld (.n h.next) 0).bind fun I5=>
 (AV.aT I5).bind fun p20=>
 (qp.ld (.n h.next) 1).bind fun yF=>
 (AV.ag .i64 yF).bind fun fC=>
 (qp.ld (.n h.next) 2).bind fun I1=>
 (AV.ag .i64 I1).bind fun rZ=>
 (qp.ld (.n h.next) 3).bind fun FL=>
 (AV.ag .i64 FL).bind fun ji=>
 (qp.ld (.n h.next) 4).bind fun yM=>
 (AV.ag .i64 yM).bind fun jo=>
 (Hu [(.agg [(.p p20),J fC,J rZ,J ji,J jo])] qp).bind fun JT=>
 (AV.aV JT.1).bind fun b30=>
 (bif (!b30) then
 none
 else (JT.2.ld (.n (h.next+1)) 2).bind fun Cl=>
 (AV.ag .i64 Cl).bind fun lJ=>
 (bif ((lJ:Int) == 0) then
 (JT.2.ld (.n ((h.next+1)+1)) 0).bind fun FE=>
 (AV.ag .i64 FE).bind fun wg=>
 (JT.2.ld (.n ((h.next+1)+1)) 1).bind fun Rw=>
 (AV.ag .i64 Rw).bind fun GU=>
 (JT.2.ld (.n ((h.next+1)+1)) 2).bind fun M1=>
 (AV.ag .i64 M1).bind fun GV=>
 (JT.2.st (.n (((h.next+1)+1)+1)) 0 [J wg,J GU,J GV]).bind fun Od=>
 (Od.ld (.n (((h.next+1)+1)+1)) 0).bind fun WR=>
 (AV.ag .i64 WR).bind fun Ou=>
 (Od.ld (.n (((h.next+1)+1)+1)) 1).bind fun WS=>
 (AV.ag .i64 WS).bind fun KC=>
 (Od.ld (.n (((h.next+1)+1)+1)) 2).bind fun ZD=>
 (AV.ag .i64 ZD).bind fun Ov=>
 some ((.aS [(.agg [J Ou,J KC,J Ov]),J 0]),Od)
 else none))
 else none
def uz:Sm O:=qD gA oB
theorem AA:aa Tryz.prog 365:=Tryz.call365
theorem AB (Hu R2:Sm O):run (O:=O) Tryz.prog [(360,Hu),(317,R2)] Tryz.f365 (.n .z (.n (.n (.n .z (.n .x (.n .z (.n .z .x)))) .z) (.n .z (.n .z .z))))=qD Hu R2:=by kernel_rfl
theorem xj:ae RO Tryz.prog 365 uz:=bt (AB _ _) (af gB fq <| af px mN <| aA) Tryz.func365 (by kernel_rfl)
def py (La afh:Sm O):Sm O:=fun xs h=>
 bif Nat.beq xs.length 1 then
 (AV.aT (xs.getD 0 .u)).bind fun p0=>
 Option.bind p0 fun q1=>
 (h.ld q1.1 (q1.2+8)).bind fun w2=>
 (AV.ag .u64 w2).bind fun n3=>
 Option.bind p0 fun q4=>
 (h.st q4.1 (q4.2+8) [(.i .u64 (IntKind.u64.wrap (n3+1)))]).bind fun h5=>
 Option.bind p0 fun q6=>
 (h5.ld q6.1 (q6.2+5)).bind fun w7=>
 (AV.ag .i64 w7).bind fun n8=>
 (h5.ld q6.1 ((q6.2+5)+1)).bind fun w9=>
 (AV.ag .i64 w9).bind fun cQ=>
 (h5.ld q6.1 (((q6.2+5)+1)+1)).bind fun nm=>
 (AV.ag .i64 nm).bind fun dy=>
 Option.bind p0 fun Bu=>
 (h5.ld Bu.1 (Bu.2+2)).bind fun ou=>
 (AV.ag .i64 ou).bind fun gd=>
 (h5.ld Bu.1 ((Bu.2+2)+1)).bind fun vl=>
 (AV.ag .i64 vl).bind fun iO=>
 (h5.ld Bu.1 (((Bu.2+2)+1)+1)).bind fun Ce=>
 (AV.ag .i64 Ce).bind fun kN=>
 (La [(.p p0)] h5).bind fun kO=>
 (AV.asAgg 5 kO.1).bind fun Us=>
 (AV.aT (Us.getD 0 .u)).bind fun p22=>
 I6 Us 1 fun qo=>I6 Us 2 fun rZ=>I6 Us 3 fun wj=>I6 Us 4 fun ji=>(bc (kO.2.ld q6.1 (q6.2+5)) (some (.i .i64 n8))).bind fun _=>
 (bc (kO.2.ld q6.1 ((q6.2+5)+1)) (some (.i .i64 cQ))).bind fun _=>
 (bc (kO.2.ld q6.1 (((q6.2+5)+1)+1)) (some (.i .i64 dy))).bind fun _=>
 (bc (kO.2.ld Bu.1 (Bu.2+2)) (some (.i .i64 gd))).bind fun _=>
 (bc (kO.2.ld Bu.1 ((Bu.2+2)+1)) (some (.i .i64 iO))).bind fun _=>
 (bc (kO.2.ld Bu.1 (((Bu.2+2)+1)+1)) (some (.i .i64 kN))).bind fun _=>
 (afh [(.agg [(.p p22),J qo,J rZ,J wj,J ji]),(.agg [J n8,J cQ,J dy]),(.agg [J gd,J iO,J kN])] kO.2).bind fun rq=>
 (AV.aE 2 rq.1).bind fun c28=>
 (AV.asAgg 3 (c28.getD 0 .u)).bind fun c29=>
 I6 c29 0 fun ot=>I6 c29 1 fun SH=>I6 c29 2 fun lJ=>I6 c28 1 fun RH=>Option.bind p0 fun q34=>
 (rq.2.st q34.1 (q34.2+5) [J ot,J SH,J lJ]).bind fun wO=>
 Option.bind p0 fun q36=>
 (wO.st q36.1 (q36.2+2) [J 0,J 0,J 0]).bind fun Vr=>
 Option.bind p0 fun q38=>
 (Vr.st q38.1 (q38.2+9) [J 0]).bind fun Od=>
 some ((.aS []),Od)
 else none
def sF:Sm O:=py gy uz
theorem y8:aa Tryz.prog 329:=Tryz.call329
theorem y9 (La afh:Sm O):run (O:=O) Tryz.prog [(307,La),(365,afh)] Tryz.f329 (.n .z (.n (.d [] [0,1,3,4,5,6,7,8,9,10,2,11,12,13,14,15,16,17] [0,0,2,0,8,24,56,0,128,384,896,2046,4094,8190,8190,16383,49151,114687]) .z))=py La afh:=by kernel_rfl
theorem vF:ae RO Tryz.prog 329 sF:=bt (y9 _ _) (af gz fo <| af AA xj <| aA) Tryz.func329 (by kernel_rfl)
def qE (pz Hv afj Hw afk:Sm O):Sm O:=fun xs h=>
 bif Nat.beq xs.length 1 then
 (AV.aT (xs.getD 0 .u)).bind fun p0=>
 Option.bind p0 fun q1=>
 (h.ld q1.1 q1.2).bind fun w2=>
 (AV.aT w2).bind fun p3=>
 (pz [(.p p3)] h).bind fun r4=>
 (AV.aT r4.1).bind fun p5=>
 (Hv [(.p p5)] r4.2).bind fun r6=>
 (AV.ag .i64 r6.1).bind fun n7=>
 (afj [(.p p5),J n7] r6.2).bind fun r8=>
 (AV.ag .i64 r8.1).bind fun n9=>
 (bif ((n9:Int) != 0) then
 none
 else Option.bind p0 fun nZ=>
 (r8.2.ld nZ.1 nZ.2).bind fun nm=>
 (AV.aT nm).bind fun p12=>
 (Hw [(.p p12)] r8.2).bind fun pZ=>
 (AV.aT pZ.1).bind fun p14=>
 (afk [(.p p14)] pZ.2).bind fun ij=>
 (AV.aE 0 ij.1).bind fun XV=>
 some (J 0,ij.2))
 else none
def uA:Sm O:=qE eY mK zU gw sF
theorem AD:aa Tryz.prog 294:=Tryz.call294
theorem AE (pz Hv afj Hw afk:Sm O):run (O:=O) Tryz.prog [(239,pz),(327,Hv),(326,afj),(328,Hw),(329,afk)] Tryz.f294 (.n .z (.n .z (.n (.n .z (.n .z (.n .x .z))) (.n .z .z))))=qE pz Hv afj Hw afk:=by kernel_rfl
theorem xk:ae RO Tryz.prog 294 uA:=bt (AE _ _ _ _ _) (af eJ dG <| af kV iZ <| af DW Ay <| af gx fk <| af y8 vF <| aA) Tryz.func294 (by kernel_rfl)
def za:List AV × AH O → Option ((List AV × AH O) ⊕ (List AV × AH O)):=(fun pZ=>
 (AV.aV (pZ.1.getD 0 .u)).bind fun b14=>
 (bif b14 then
 none
 else some (Sum.inr ([],pZ.2))))
def nI (tA sE:Sm O):Sm O:=fun xs h=>
 bif Nat.beq xs.length 2 then
 (AV.aT (xs.getD 0 .u)).bind fun p0=>
 (AV.Qt (xs.getD 1 .u)).bind fun f1=>
 (bif (Option.isNone f1) then
 none
 else let h2:=h.bump 1
 Option.bind p0 fun q3=>
 (h2.ld q3.1 (q3.2+5)).bind fun w4=>
 (AV.ag .i64 w4).bind fun n5=>
 (h2.ld q3.1 ((q3.2+5)+1)).bind fun w6=>
 (AV.ag .i64 w6).bind fun n7=>
 Option.bind p0 fun q8=>
 (h2.ld q8.1 (q8.2+4)).bind fun w9=>
 (AV.ag .i64 w9).bind fun cQ=>
 let iM:=h2.put h.next (.cells true 284 [J 0,J 0])
 (iM.st (.n h.next) 0 [J n5,J n7]).bind fun G9=>
 (bc (G9.ld q8.1 (q8.2+4)) (some (.i .i64 cQ))).bind fun _=>
 (aQ (S:=List AV × AH O) (T:=List AV × AH O) (za) ([(.b (decide (cQ > 0)))],G9)).bind fun ij=>
 some ((.aS []),ij.2))
 else none
def qF:Sm O:=nI gU fT
theorem xl:aa Tryz.prog 330:=Tryz.call330
theorem xm (tA sE:Sm O):run (O:=O) Tryz.prog [(281,tA),(224,sE)] Tryz.f330 (.n (.n .z (.n .x .z)) (.n (.d [] [0,1,2,3,4,5,6,7,8,9,10,11] [0,1,3,7,0,16,48,112,240,0,527,2047]) (.n (.lp false 0 [(5,.one .b)] [] (.n (.n .z (.n .x .z)) (.n (.n (.n .z (.n (.lp false 1000000 [(24,.one (.i .i64))] [] (.n .z (.n (.n .x .x) (.n (.n (.n .z (.n .z (.n (.d [] [0,1,2,3,4,5,6,7,8,9,10,11,12,13,14] [0,1,3,7,0,16,48,112,0,511,1023,2047,2047,4095,16383]) (.n .z (.n .x .x))))) .z) .z)))) .z)) .z) .z))) .z)))=nI tA sE:=by kernel_rfl
theorem tC:ae RO Tryz.prog 330 qF:=bt (xm _ _) (af eW dN <| af eC dC <| aA) Tryz.func330 (by kernel_rfl)
def AF (n6:Int):List AV × AH O → Option ((List AV × AH O) ⊕ (List AV × AH O)):=(fun r7=>
 (AV.ag .i64 (r7.1.getD 0 .u)).bind fun n8=>
 (bif (decide (n8<n6)) then
 none
 else some (Sum.inr ([],r7.2))))
def i0 (ky0:Sm O):Sm O:=fun xs h=>
 bif Nat.beq xs.length 3 then
 (AV.Qt (xs.getD 0 .u)).bind fun f0=>
 (AV.lN (xs.getD 1 .u)).bind fun q1=>
 (h.ld q1.1 q1.2).bind fun w2=>
 (AV.ag .i64 w2).bind fun n3=>
 (AV.lN (xs.getD 1 .u)).bind fun q4=>
 (h.ld q4.1 (q4.2+2)).bind fun w5=>
 (AV.ag .i64 w5).bind fun n6=>
 (aQ (S:=List AV × AH O) (T:=List AV × AH O) (AF n6) ([J 0],h)).bind fun r9=>
 some ((.aS []),r9.2)
 else none
def gC (ky0:Sm O):Sm O:=i0 ky0
theorem zb:aa Tryz.prog 390:=Tryz.call390
theorem zc (ky0:Sm O):run (O:=O) Tryz.prog [(1000000,ky0)] Tryz.f390 (.n .z (.n .z (.n (.lp false 0 [(11,.one (.i .i64))] [] (.n .z (.n (.n .x .z) (.n (.n (.n (.n .z (.n .x .x)) (.n .z (.n (.n .z (.n .x .x)) .z))) .z) .z)))) .z)))=i0 ky0:=by kernel_rfl
theorem vG {ky0:Sm O} (hy:nV RO Tryz.prog ky0):ae RO Tryz.prog 390 (gC ky0):=
   have h:ae RO Tryz.prog 390 (i0 ky0):=(zc ky0)▸aU (apU hy <| aA) mixed Tryz.func390 (by kernel_rfl) _
   h
def ki (R1:Sm O):Sm O:=fun xs h=>
 bif Nat.beq xs.length 1 then
 (AV.aT (xs.getD 0 .u)).bind fun p0=>
 let h1:=h.bump 1
 let h2:=h1.put h.next (.cells true 368 [(.p none),J 0,J 0,J 0,J 0])
 Option.bind p0 fun q3=>
 (h2.ld q3.1 q3.2).bind fun w4=>
 (AV.aT w4).bind fun p5=>
 (R1 [(.p p5),J 1,J 2] h2).bind fun r6=>
 (AV.asAgg 5 r6.1).bind fun c7=>
 (AV.aT (c7.getD 0 .u)).bind fun p8=>
 I6 c7 1 fun n9=>I6 c7 2 fun cQ=>I6 c7 3 fun dZ=>I6 c7 4 fun dy=>(r6.2.st (.n h.next) 0 [(.p p8),J n9,J cQ,J dZ,J dy]).bind fun nk=>
 (nk.ld (.n h.next) 0).bind fun ou=>
 (AV.aT ou).bind fun p15=>
 (nk.ld (.n h.next) 1).bind fun vl=>
 (AV.ag .i64 vl).bind fun iO=>
 (nk.ld (.n h.next) 2).bind fun Ce=>
 (AV.ag .i64 Ce).bind fun kN=>
 (nk.ld (.n h.next) 3).bind fun DL=>
 (AV.ag .i64 DL).bind fun vr=>
 (nk.ld (.n h.next) 4).bind fun IZ=>
 (AV.ag .i64 IZ).bind fun qo=>
 some ((.agg [(.p p15),J iO,J kN,J vr,J qo]),nk)
 else none
def cZ:Sm O:=ki oA
theorem i4:aa Tryz.prog 271:=Tryz.call271
theorem sG (R1:Sm O):run (O:=O) Tryz.prog [(315,R1)] Tryz.f271 (.n .z .z)=ki R1:=by kernel_rfl
theorem gN:ae RO Tryz.prog 271 cZ:=bt (sG _) (af pq mL <| aA) Tryz.func271 (by kernel_rfl)
def sH:Sm O:=fun xs h=>
 bif Nat.beq xs.length 2 then
 (AV.asAgg 5 (xs.getD 0 .u)).bind fun c0=>
 (AV.aT (c0.getD 0 .u)).bind fun p1=>
 I6 c0 1 fun n2=>I6 c0 2 fun n3=>I6 c0 3 fun n4=>I6 c0 4 fun n5=>(AV.asAgg 3 (xs.getD 1 .u)).bind fun c6=>
 I6 c6 0 fun n7=>I6 c6 1 fun n8=>I6 c6 2 fun n9=>let gS:=h.bump 2
 let iM:=gS.put h.next (.cells true 368 [(.p p1),J n2,J n3,J n4,J n5])
 let G9:=iM.put (h.next+1) (.cells true 280 [J n7,J n8,J n9])
 some ((.fn (some (.func 390,[],[(.p (some ((.n (h.next+1)),0))),(.p (some ((.n h.next),0)))]))),G9)
 else none
def ju:Sm O:=sH
theorem CA:aa Tryz.prog 366:=Tryz.call366
theorem CB:run (O:=O) Tryz.prog [] Tryz.f366 (.n .z .z)=sH:=by kernel_rfl
theorem zd:ae RO Tryz.prog 366 ju:=bt CB (aA) Tryz.func366 (by kernel_rfl)
def xn (RV yS sE:Sm O):Sm O:=fun xs h=>
 bif Nat.beq xs.length 4 then
 (AV.aT (xs.getD 0 .u)).bind fun p0=>
 (AV.ag .i64 (xs.getD 1 .u)).bind fun n1=>
 (AV.ag .i64 (xs.getD 2 .u)).bind fun n2=>
 (AV.ag .u64 (xs.getD 3 .u)).bind fun n3=>
 (RV [(.p p0),J n1,J n2] h).bind fun r4=>
 (AV.ag .i64 r4.1).bind fun n5=>
 (bif ((n5:Int) != 0) then
 none
 else Option.bind p0 fun q6=>
 (r4.2.ld q6.1 q6.2).bind fun w7=>
 (AV.aT w7).bind fun p8=>
 Option.bind p0 fun q9=>
 (r4.2.ld q9.1 (q9.2+1)).bind fun wP=>
 (AV.ag .i64 wP).bind fun dZ=>
 (yS [(.p p0),J n1,J n2] r4.2).bind fun fa=>
 (AV.ag .i64 fa.1).bind fun fg=>
 (bc (fa.2.ld q6.1 q6.2) (some (.p p8))).bind fun _=>
 (bc (fa.2.ld q9.1 (q9.2+1)) (some (.i .i64 dZ))).bind fun _=>
 (sE [(.p p8),J dZ,J fg,(.i .u64 n3)] fa.2).bind fun r14=>
 (AV.ag .i64 r14.1).bind fun gd=>
 some (J gd,r14.2))
 else none
def da:Sm O:=xn oy ke fT
theorem gD:aa Tryz.prog 270:=Tryz.call270
theorem F0 (RV yS sE:Sm O):run (O:=O) Tryz.prog [(314,RV),(313,yS),(224,sE)] Tryz.f270 (.n .z (.n (.n .z (.n .z (.n .x .z))) (.n (.d [] [0,1,2,3,4,5,6,7,8,9,10,12,11,13,14] [0,1,3,7,0,16,48,112,0,0,0,1792,0,8191,16383]) .z)))=xn RV yS sE:=by kernel_rfl
theorem eZ:ae RO Tryz.prog 270 da:=bt (F0 _ _ _) (af pc mC <| af iw fH <| af eC dC <| aA) Tryz.func270 (by kernel_rfl)
def eD (Au AG:Sm O):Sm O:=VM 331000 1 fun aru ys0 arv h=>
 (AV.aT (aru 2)).bind fun p0=>
 (AV.ag .i64 (ys0.getD 0 .u)).bind fun n1=>
 (Xc h arv).bind fun h2=>
 Option.bind p0 fun q3=>
 (h2.ld q3.1 q3.2).bind fun w4=>
 (AV.aT w4).bind fun p5=>
 Option.bind p5 fun q6=>
 (h2.ld q6.1 q6.2).bind fun w7=>
 (AV.aT w7).bind fun p8=>
 (Au [(.p p8),J n1,J 0] h2).bind fun r9=>
 (AV.aE 2 r9.1).bind fun Gl=>
 (AV.ag .u64 (Gl.getD 0 .u)).bind fun dZ=>
 I6 Gl 1 fun dy=>(bif ((dZ:Int) != 0) then
 none
 else none)
def dx:Sm O:=eD cY da
theorem qi (Au AG:Sm O):QA (O:=O) Tryz.prog [(279,Au),(270,AG)] 331 Tryz.f331 0 [(2,.one .p)] [(16,.one (.i .i64))] (.n .z (.n (.n .z (.n .z (.n .x .x))) .z))=eD Au AG:=by kernel_rfl
theorem oC:nV RO Tryz.prog (dx):=
   have h:nV RO Tryz.prog (eD cY da):=(qi cY da)▸Oq (af gu (eX) <| af gD (eZ) <| aA) mixed Tryz.func331 _ _ _ _
   h
def fU (O0 ab9 Au AG XW:Sm O):Sm O:=fun xs h=>
 bif Nat.beq xs.length 2 then
 (AV.aT (xs.getD 0 .u)).bind fun p0=>
 (AV.Qt (xs.getD 1 .u)).bind fun f1=>
 let h2:=h.bump 2
 let h3:=h2.put h.next (.cells true 224 [(.p p0)])
 let h4:=h3.put (h.next+1) (.cells true 383 [(.fn f1)])
 (h4.ld (.n (h.next+1)) 0).bind fun w5=>
 (AV.Qt w5).bind fun f6=>
 (bif (Option.isNone f6) then
 none
 else (h4.ld (.n h.next) 0).bind fun w7=>
 (AV.aT w7).bind fun p8=>
 (h4.ld (.n h.next) 0).bind fun w9=>
 (AV.aT w9).bind fun Vz=>
 Option.bind Vz fun Gm=>
 (h4.ld Gm.1 (Gm.2+1)).bind fun tw=>
 (AV.ag .i64 tw).bind fun fg=>
 (h4.ld Gm.1 ((Gm.2+1)+1)).bind fun ou=>
 (AV.ag .i64 ou).bind fun gd=>
 (h4.ld Gm.1 (((Gm.2+1)+1)+1)).bind fun vl=>
 (AV.ag .i64 vl).bind fun iO=>
 (O0 [(.p p8)] h4).bind fun gb=>
 (AV.asAgg 5 gb.1).bind fun Ro=>
 (AV.aT (Ro.getD 0 .u)).bind fun p20=>
 I6 Ro 1 fun vr=>I6 Ro 2 fun fC=>I6 Ro 3 fun qo=>I6 Ro 4 fun rZ=>(bc (gb.2.ld (.n h.next) 0) (some (.p Vz))).bind fun _=>
 (bc (gb.2.ld Gm.1 (Gm.2+1)) (some (.i .i64 fg))).bind fun _=>
 (bc (gb.2.ld Gm.1 ((Gm.2+1)+1)) (some (.i .i64 gd))).bind fun _=>
 (bc (gb.2.ld Gm.1 (((Gm.2+1)+1)+1)) (some (.i .i64 iO))).bind fun _=>
 (ab9 [(.agg [(.p p20),J vr,J fC,J qo,J rZ]),(.agg [J fg,J gd,J iO])] gb.2).bind fun Dz=>
 (AV.Qt Dz.1).bind fun f26=>
 (VJ [(271,O0),(366,ab9),(279,Au),(270,AG),(2000390,XW)] f26 331000 [(2,(.p (some ((.n h.next),0))))] Dz.2).bind fun rq=>
 (ahR rq.2 Dz.2.next).bind fun arw=>
 let Q9:=rq.2.kill Dz.2.next
 (bif Nat.beq arw 0 then
 some ((.aS []),Q9)
 else none))
 else none
def gY:Sm O:=fU cZ ju cY da (gC (dx))
theorem jG:aa Tryz.prog 331:=Tryz.call331
theorem tD (O0 ab9 Au AG XW:Sm O):run (O:=O) Tryz.prog [(271,O0),(366,ab9),(279,Au),(270,AG),(2000390,XW)] Tryz.f331 (.n .z (.n (.n .z (.n .x .z)) (.n (.d [] [0,2,3,4,5,1,6] [0,1,0,4,12,28,63]) (.n (.rf 331000 [2] []) .z))))=fU O0 ab9 Au AG XW:=by kernel_rfl
theorem iz:ae RO Tryz.prog 331 (gY):=
   have h:ae RO Tryz.prog 331 (fU cZ ju cY da (gC (dx))):=(tD cZ ju cY da (gC (dx)))▸Wf (af i4 (gN) <| af CA (zd) <| af gu (eX) <| af gD (eZ) <| grf (c:=390) zb (vG (oC)) <| aA) mixed Tryz.func331 (by kernel_rfl) _ (by kernel_rfl)
   h
def qG (afl R3:Sm O):Sm O:=fun xs h=>
 bif Nat.beq xs.length 2 then
 (AV.aT (xs.getD 0 .u)).bind fun p0=>
 (AV.Qt (xs.getD 1 .u)).bind fun f1=>
 Option.bind p0 fun q2=>
 (h.ld q2.1 q2.2).bind fun w3=>
 (AV.aT w3).bind fun p4=>
 (afl [(.p p4),(.fn f1)] h).bind fun r5=>
 (AV.aE 0 r5.1).bind fun c6=>
 Option.bind p0 fun q7=>
 (r5.2.ld q7.1 (q7.2+1)).bind fun w8=>
 (AV.aT w8).bind fun p9=>
 (R3 [(.p p9),(.fn f1)] r5.2).bind fun dw=>
 (AV.aE 0 dw.1).bind fun WD=>
 some ((.aS []),dw.2)
 else none
def uB:Sm O:=qG qF gY
theorem AJ:aa Tryz.prog 295:=Tryz.call295
theorem AK (afl R3:Sm O):run (O:=O) Tryz.prog [(330,afl),(331,R3)] Tryz.f295 .z=qG afl R3:=by kernel_rfl
theorem xo:ae RO Tryz.prog 295 uB:=bt (AK _ _) (af xl tC <| af jG iz <| aA) Tryz.func295 (by kernel_rfl)
def Nt:Sm O:=fun xs h=>
 bif Nat.beq xs.length 1 then
 (AV.aT (xs.getD 0 .u)).bind fun p0=>
 let h1:=h.bump 1
 let h2:=h1.put h.next (.cells true 405 [(.p p0),J 0,J 0])
 some ((.p (some ((.n h.next),0))),h2)
 else none
def Uu:Sm O:=Nt
theorem R4:aa Tryz.prog 297:=Tryz.call297
theorem R5:run (O:=O) Tryz.prog [] Tryz.f297 (.n .z .z)=Nt:=by kernel_rfl
theorem Nu:ae RO Tryz.prog 297 Uu:=bt R5 (aA) Tryz.func297 (by kernel_rfl)
def qH:Sm O:=fun xs h=>
 bif Nat.beq xs.length 1 then
 (AV.aT (xs.getD 0 .u)).bind fun p0=>
 Option.bind p0 fun q1=>
 (h.ld q1.1 q1.2).bind fun w2=>
 (AV.aT w2).bind fun p3=>
 some ((.p p3),h)
 else none
def mO:Sm O:=qH
theorem nJ:aa Tryz.prog 376:=Tryz.call376
theorem AL:run (O:=O) Tryz.prog [] Tryz.f376 (.n .z .z)=qH:=by kernel_rfl
theorem lB:ae RO Tryz.prog 376 mO:=bt AL (aA) Tryz.func376 (by kernel_rfl)
def ER:Sm O:=fun xs h=>
 bif Nat.beq xs.length 1 then
 (AV.ag .i64 (xs.getD 0 .u)).bind fun n0=>
 ((bif ((decide (n0<0)) == false) then
 some ([(.b (decide (n0 ≥ 4194304)))],h)
 else some ([(.b true)],h)):Option (List AV × AH O)).bind fun r1=>
 (AV.aV (r1.1.getD 0 .u)).bind fun b2=>
 (bif b2 then
 none
 else let v3:Int:=(IntKind.u64.wrap ((IntKind.u64.wrap n0)*2 ^ 1))
 some ((.aS [(.i .u64 (bE .or .u64 v3 1)),J 0]),r1.2))
 else none
def CC:Sm O:=ER
theorem zW:aa Tryz.prog 266:=Tryz.call266
theorem Lb:run (O:=O) Tryz.prog [] Tryz.f266 (.n .z (.n (.n (.g [(2,2,[(9,.one .b)])]) (.n .x .z)) .z))=ER:=by kernel_rfl
theorem uC:ae RO Tryz.prog 266 CC:=bt Lb (aA) Tryz.func266 (by kernel_rfl)
def qI (La:Sm O):Sm O:=fun xs h=>
 bif Nat.beq xs.length 1 then
 (AV.aT (xs.getD 0 .u)).bind fun p0=>
 Option.bind p0 fun q1=>
 (h.ld q1.1 (q1.2+2)).bind fun w2=>
 (AV.ag .i64 w2).bind fun n3=>
 Option.bind p0 fun q4=>
 (h.ld q4.1 (q4.2+9)).bind fun w5=>
 (AV.ag .i64 w5).bind fun n6=>
 (bif ((n6:Int) != 0) then
 none
 else (bif ((n3:Int) == 0) then
 some ((.aS [J 0,(.b false)]),h)
 else none))
 else none
def uD:Sm O:=qI gy
theorem AM:aa Tryz.prog 394:=Tryz.call394
theorem AN (La:Sm O):run (O:=O) Tryz.prog [(307,La)] Tryz.f394 (.n .z (.n .z (.n (.n .z (.n .x .z)) (.n (.n .z (.n .z .x)) (.n .z .z)))))=qI La:=by kernel_rfl
theorem xp:ae RO Tryz.prog 394 uD:=bt (AN _) (af gz fo <| aA) Tryz.func394 (by kernel_rfl)
def uE (R6 pz Hv Uv Hw afm:Sm O):Sm O:=fun xs h=>
 bif Nat.beq xs.length 1 then
 (AV.aT (xs.getD 0 .u)).bind fun p0=>
 Option.bind p0 fun q1=>
 (h.ld q1.1 (q1.2+1)).bind fun w2=>
 (AV.ag .i64 w2).bind fun n3=>
 Option.bind p0 fun q4=>
 (h.ld q4.1 q4.2).bind fun w5=>
 (AV.aT w5).bind fun p6=>
 (R6 [(.p p6)] h).bind fun r7=>
 (AV.aT r7.1).bind fun p8=>
 (bc (r7.2.ld q1.1 (q1.2+1)) (some (.i .i64 n3))).bind fun _=>
 (pz [(.p p8)] r7.2).bind fun r9=>
 (AV.aT r9.1).bind fun Vz=>
 (bc (r9.2.ld q1.1 (q1.2+1)) (some (.i .i64 n3))).bind fun _=>
 (Hv [(.p Vz)] r9.2).bind fun oq=>
 (AV.ag .i64 oq.1).bind fun dy=>
 (bc (oq.2.ld q1.1 (q1.2+1)) (some (.i .i64 n3))).bind fun _=>
 (bif (decide (n3<dy)) then
 none
 else Option.bind p0 fun Bu=>
 (oq.2.ld Bu.1 Bu.2).bind fun ou=>
 (AV.aT ou).bind fun p15=>
 (R6 [(.p p15)] oq.2).bind fun rn=>
 (AV.aT rn.1).bind fun p17=>
 (Hw [(.p p17)] rn.2).bind fun gb=>
 (AV.aT gb.1).bind fun p19=>
 (afm [(.p p19)] gb.2).bind fun kO=>
 (AV.aE 2 kO.1).bind fun Us=>
 I6 Us 0 fun fC=>(AV.aV (Us.getD 1 .u)).bind fun b23=>
 (bif (!b23) then
 some ((.aS [(.i .u64 0),(.b false)]),kO.2)
 else none))
 else none
def zX:Sm O:=uE mO eY mK CC gw uD
theorem D0:aa Tryz.prog 375:=Tryz.call375
theorem D1 (R6 pz Hv Uv Hw afm:Sm O):run (O:=O) Tryz.prog [(376,R6),(239,pz),(327,Hv),(266,Uv),(328,Hw),(394,afm)] Tryz.f375 (.n .z (.n (.n (.d [] [0,1,2,3,4,5,6,7,8,9,10,11] [0,1,3,7,0,16,48,112,240,496,1008,2047]) (.n .x .z)) (.n .z (.n (.n .z (.n .z .x)) (.n .z .z)))))=uE R6 pz Hv Uv Hw afm:=by kernel_rfl
theorem AO:ae RO Tryz.prog 375 zX:=bt (D1 _ _ _ _ _ _) (af nJ lB <| af eJ dG <| af kV iZ <| af zW uC <| af gx fk <| af AM xp <| aA) Tryz.func375 (by kernel_rfl)
def zY:Sm O:=fun xs h=>
 bif Nat.beq xs.length 1 then
 (AV.ag .u64 (xs.getD 0 .u)).bind fun n0=>
 (bif ((n0:Int) == 0) then
 none
 else ((bif ((((bE .and .u64 n0 1):Int) == 1) == true) then
 some ([(.b (decide ((Int.fdiv n0 (2 ^ 1))<4194304)))],h)
 else some ([(.b false)],h)):Option (List AV × AH O)).bind fun r1=>
 (AV.aV (r1.1.getD 0 .u)).bind fun b2=>
 (bif b2 then
 some (J 1,r1.2)
 else none))
 else none
def oK:Sm O:=zY
theorem mP:aa Tryz.prog 235:=Tryz.call235
theorem Hx:run (O:=O) Tryz.prog [] Tryz.f235 (.n .z (.n .z (.n (.n (.n .z (.n .x (.n (.g [(3,2,[(16,.one .b)])]) (.n .z .x)))) .z) .z)))=zY:=by kernel_rfl
theorem jS:ae RO Tryz.prog 235 oK:=bt Hx (aA) Tryz.func235 (by kernel_rfl)
def ES (Jj:Sm O):Sm O:=fun xs h=>
 bif Nat.beq xs.length 1 then
 (AV.ag .u64 (xs.getD 0 .u)).bind fun n0=>
 (Jj [(.i .u64 n0)] h).bind fun r1=>
 (AV.ag .i64 r1.1).bind fun n2=>
 (bif ((n2:Int) == 1) then
 (bif ((n2:Int) == 1) then
 some ((.i .i64 (IntKind.i64.wrap (Int.fdiv n0 (2 ^ 1)))),r1.2)
 else none)
 else none)
 else none
def J9:Sm O:=ES oK
theorem Lc:aa Tryz.prog 285:=Tryz.call285
theorem Ld (Jj:Sm O):run (O:=O) Tryz.prog [(235,Jj)] Tryz.f285 (.n .z (.n (.n .z (.n (.n (.n .z (.n .z .x)) (.n .z .x)) .z)) .z))=ES Jj:=by kernel_rfl
theorem Hy:ae RO Tryz.prog 285 J9:=bt (Ld _) (af mP jS <| aA) Tryz.func285 (by kernel_rfl)
def qJ:Sm O:=fun xs h=>
 bif Nat.beq xs.length 3 then
 (AV.asAgg 2 (xs.getD 0 .u)).bind fun c0=>
 I6 c0 0 fun n1=>I6 c0 1 fun n2=>(AV.ag .i64 (xs.getD 1 .u)).bind fun n3=>
 (AV.ag .i64 (xs.getD 2 .u)).bind fun n4=>
 let h5:=h.bump 1
 let h6:=h5.put h.next (.cells true 273 [J n1,J n2])
 ((bif ((decide (n4 ≥ 0)) == true) then
 some ([(.b (decide (n3 ≥ 0)))],h6)
 else some ([(.b false)],h6)):Option (List AV × AH O)).bind fun r7=>
 (AV.aV (r7.1.getD 0 .u)).bind fun b8=>
 ((bif (b8 == true) then
 (r7.2.ld (.n h.next) 1).bind fun w9=>
 (AV.ag .i64 w9).bind fun cQ=>
 some ([(.b (decide (n3 ≤ cQ)))],r7.2)
 else some ([(.b false)],r7.2)):Option (List AV × AH O)).bind fun oq=>
 (AV.aV (oq.1.getD 0 .u)).bind fun b12=>
 ((bif (b12 == true) then
 (oq.2.ld (.n h.next) 1).bind fun tz=>
 (AV.ag .i64 tz).bind fun fW=>
 some ([(.b (decide (n4 ≤ (IntKind.i64.wrap (fW - n3)))))],oq.2)
 else some ([(.b false)],oq.2)):Option (List AV × AH O)).bind fun ij=>
 (AV.aV (ij.1.getD 0 .u)).bind fun WN=>
 some ((.b WN),ij.2)
 else none
def mQ:Sm O:=qJ
theorem nK:aa Tryz.prog 309:=Tryz.call309
theorem AP:run (O:=O) Tryz.prog [] Tryz.f309 (.n .z (.n (.g [(2,2,[(12,.one .b)]),(6,4,[(18,.one .b)]),(12,6,[(26,.one .b)])]) .z))=qJ:=by kernel_rfl
theorem lC:ae RO Tryz.prog 309 mQ:=bt AP (aA) Tryz.func309 (by kernel_rfl)
def uF (R8 tA:Sm O):Sm O:=fun xs h=>
 bif Nat.beq xs.length 2 then
 (AV.aT (xs.getD 0 .u)).bind fun p0=>
 (AV.ag .i64 (xs.getD 1 .u)).bind fun n1=>
 Option.bind p0 fun q2=>
 (h.ld q2.1 (q2.2+1)).bind fun w3=>
 (AV.ag .i64 w3).bind fun n4=>
 (h.ld q2.1 ((q2.2+1)+1)).bind fun w5=>
 (AV.ag .i64 w5).bind fun n6=>
 (R8 [(.agg [J n4,J n6]),J n1,J 1] h).bind fun r7=>
 (AV.aV r7.1).bind fun b8=>
 (bif (!b8) then
 none
 else Option.bind p0 fun q9=>
 (r7.2.ld q9.1 q9.2).bind fun wP=>
 (AV.aT wP).bind fun p11=>
 Option.bind p0 fun Kx=>
 (r7.2.ld Kx.1 (Kx.2+1)).bind fun tz=>
 (AV.ag .i64 tz).bind fun fW=>
 (tA [(.p p11),J fW,J n1] r7.2).bind fun ij=>
 (AV.aE 2 ij.1).bind fun XV=>
 (AV.ag .u64 (XV.getD 0 .u)).bind fun iO=>
 I6 XV 1 fun jX=>some ((.aS [(.i .u64 iO),J jX]),ij.2))
 else none
def zZ:Sm O:=uF mQ gU
theorem D2:aa Tryz.prog 284:=Tryz.call284
theorem D3 (R8 tA:Sm O):run (O:=O) Tryz.prog [(309,R8),(281,tA)] Tryz.f284 (.n .z (.n (.n .z (.n .x .z)) (.n (.d [] [0,1,2,3,4,5,6,7,8,9,10,11,12,13,14] [0,1,3,7,0,16,48,112,240,0,1023,2047,2047,8191,16383]) .z)))=uF R8 tA:=by kernel_rfl
theorem AQ:ae RO Tryz.prog 284 zZ:=bt (D3 _ _) (af nK lC <| af eW dN <| aA) Tryz.func284 (by kernel_rfl)
def qK (Jj afn afo:Sm O):Sm O:=fun xs h=>
 bif Nat.beq xs.length 3 then
 (AV.aT (xs.getD 0 .u)).bind fun p0=>
 (AV.ag .u64 (xs.getD 1 .u)).bind fun n1=>
 (AV.ag .i64 (xs.getD 2 .u)).bind fun n2=>
 (Jj [(.i .u64 n1)] h).bind fun r3=>
 (AV.ag .i64 r3.1).bind fun n4=>
 (bif ((n4:Int) == 0) then
 none
 else (bif ((n4:Int) == 1) then
 Option.bind p0 fun q5=>
 (r3.2.ld q5.1 (q5.2+1)).bind fun w6=>
 (AV.aT w6).bind fun p7=>
 (afn [(.i .u64 n1)] r3.2).bind fun r8=>
 (AV.ag .i64 r8.1).bind fun n9=>
 (bc (r8.2.ld q5.1 (q5.2+1)) (some (.p p7))).bind fun _=>
 (afo [(.p p7),(.i .i64 (IntKind.i64.wrap (n9+n2)))] r8.2).bind fun dw=>
 (AV.aE 2 dw.1).bind fun WD=>
 (AV.ag .u64 (WD.getD 0 .u)).bind fun dy=>
 I6 WD 1 fun fg=>some ((.aS [(.i .u64 dy),J fg]),dw.2)
 else none))
 else none
def mR:Sm O:=qK oK J9 zZ
theorem nL:aa Tryz.prog 234:=Tryz.call234
theorem AR (Jj afn afo:Sm O):run (O:=O) Tryz.prog [(235,Jj),(285,afn),(284,afo)] Tryz.f234 (.n .z (.n (.n .z (.n (.n .z (.n .x (.n .z (.n (.n (.d [] [0,1,2,3,4,5,7,6,8,9,10,11,12,13] [0,1,3,7,15,0,32,0,224,511,1023,1023,4095,8191]) .z) .x)))) .z)) .z))=qK Jj afn afo:=by kernel_rfl
theorem lD:ae RO Tryz.prog 234 mR:=bt (AR _ _ _) (af mP jS <| af Lc Hy <| af D2 AQ <| aA) Tryz.func234 (by kernel_rfl)
def uG (afp R6 Uw ZB Jj Jf:Sm O):Sm O:=fun xs h=>
 bif Nat.beq xs.length 1 then
 (AV.aT (xs.getD 0 .u)).bind fun p0=>
 (afp [(.p p0)] h).bind fun r1=>
 (AV.aE 2 r1.1).bind fun c2=>
 (AV.ag .u64 (c2.getD 0 .u)).bind fun n3=>
 (AV.aV (c2.getD 1 .u)).bind fun b4=>
 (bif (!b4) then
 some ((.b false),r1.2)
 else none)
 else none
def z6:Sm O:=uG zX mO mR cR oK rA
theorem D4:aa Tryz.prog 334:=Tryz.call334
theorem D5 (afp R6 Uw ZB Jj Jf:Sm O):run (O:=O) Tryz.prog [(375,afp),(376,R6),(234,Uw),(60,ZB),(235,Jj),(261,Jf)] Tryz.f334 (.n .z (.n .z (.n (.n .z (.n .z .x)) (.n .z (.n .z (.n (.n .z (.n .x .x)) (.n (.n .z (.n .x .x)) (.n .z (.n .z .z)))))))))=uG afp R6 Uw ZB Jj Jf:=by kernel_rfl
theorem AU:ae RO Tryz.prog 334 z6:=bt (D5 _ _ _ _ _ _) (af D0 AO <| af nJ lB <| af nL lD <| af mq jQ <| af mP jS <| af oz kT <| aA) Tryz.func334 (by kernel_rfl)
def Hz (ZG:Sm O) (p0:Option (jJ × Nat)):List AV × AH O → Option ((List AV × AH O) ⊕ (List AV × AH O)):=(fun r4=>
 (ZG [(.p p0)] r4.2).bind fun r5=>
 (AV.aV r5.1).bind fun b6=>
 (bif b6 then
 none
 else some (Sum.inr ([],r5.2))))
def xq (ZG:Sm O):Sm O:=fun xs h=>
 bif Nat.beq xs.length 1 then
 (AV.aT (xs.getD 0 .u)).bind fun p0=>
 Option.bind p0 fun q1=>
 (h.ld q1.1 (q1.2+2)).bind fun w2=>
 (AV.ag .i64 w2).bind fun n3=>
 (aQ (S:=List AV × AH O) (T:=List AV × AH O) (Hz ZG p0) ([],h)).bind fun r7=>
 Option.bind p0 fun q8=>
 (r7.2.ld q8.1 (q8.2+2)).bind fun w9=>
 (AV.ag .i64 w9).bind fun cQ=>
 some ((.i .i64 (IntKind.i64.wrap (cQ - n3))),r7.2)
 else none
def CD:Sm O:=xq z6
theorem F1:aa Tryz.prog 298:=Tryz.call298
theorem F2 (ZG:Sm O):run (O:=O) Tryz.prog [(334,ZG)] Tryz.f298 (.n .z (.n .z (.n (.n (.lp false 0 [] [] (.n (.n .z (.n .x .z)) .z)) .z) .z)))=xq ZG:=by kernel_rfl
theorem CE:ae RO Tryz.prog 298 CD:=bt (F2 _) (af D4 AU <| aA) Tryz.func298 (by kernel_rfl)
def lE (R3:Sm O):Sm O:=fun xs h=>
 bif Nat.beq xs.length 2 then
 (AV.aT (xs.getD 0 .u)).bind fun p0=>
 (AV.Qt (xs.getD 1 .u)).bind fun f1=>
 Option.bind p0 fun q2=>
 (h.ld q2.1 (q2.2+2)).bind fun w3=>
 (AV.aT w3).bind fun p4=>
 (R3 [(.p p4),(.fn f1)] h).bind fun r5=>
 (AV.aE 0 r5.1).bind fun c6=>
 some ((.aS []),r5.2)
 else none
def nM:Sm O:=lE gY
theorem tE:aa Tryz.prog 335:=Tryz.call335
theorem tF (R3:Sm O):run (O:=O) Tryz.prog [(331,R3)] Tryz.f335 .z=lE R3:=by kernel_rfl
theorem rC:ae RO Tryz.prog 335 nM:=bt (tF _) (af jG iz <| aA) Tryz.func335 (by kernel_rfl)
def ET (afq:Sm O):Sm O:=fun xs h=>
 bif Nat.beq xs.length 2 then
 (AV.aT (xs.getD 0 .u)).bind fun p0=>
 (AV.aT (xs.getD 1 .u)).bind fun p1=>
 let h2:=h.bump 1
 let h3:=h2.put h.next (.cells true 379 [(.p p0)])
 let h4:=h3.bump 1
 let h5:=h4.put h3.next (.cells true 3 [J 0])
 (h5.st (.n h3.next) 0 [J 0]).bind fun h6=>
 (afq [(.p p1),(.fn (some (.func 336,[],[(.p (some ((.n h.next),0))),(.p (some ((.n h3.next),0)))])))] h6).bind fun r7=>
 (AV.aE 0 r7.1).bind fun c8=>
 (r7.2.ld (.n h3.next) 0).bind fun w9=>
 (AV.ag .i64 w9).bind fun cQ=>
 some (J cQ,r7.2)
 else none
def J':Sm O:=ET nM
theorem Le:aa Tryz.prog 299:=Tryz.call299
theorem Lf (afq:Sm O):run (O:=O) Tryz.prog [(335,afq)] Tryz.f299 (.n .z (.n .z (.n .z .z)))=ET afq:=by kernel_rfl
theorem HA:ae RO Tryz.prog 299 J':=bt (Lf _) (af tE rC <| aA) Tryz.func299 (by kernel_rfl)
def qL:Sm O:=fun xs h=>
 bif Nat.beq xs.length 1 then
 (AV.aT (xs.getD 0 .u)).bind fun p0=>
 Option.bind p0 fun q1=>
 (h.ld q1.1 ((q1.2+3)+1)).bind fun w2=>
 (AV.ag .i64 w2).bind fun n3=>
 some (J n3,h)
 else none
def uH:Sm O:=qL
theorem AW:aa Tryz.prog 338:=Tryz.call338
theorem AX:run (O:=O) Tryz.prog [] Tryz.f338 (.n .z .z)=qL:=by kernel_rfl
theorem xr:ae RO Tryz.prog 338 uH:=bt AX (aA) Tryz.func338 (by kernel_rfl)
def qM:Sm O:=fun xs h=>
 bif Nat.beq xs.length 2 then
 (AV.aT (xs.getD 0 .u)).bind fun p0=>
 (AV.ag .i64 (xs.getD 1 .u)).bind fun n1=>
 ((bif ((Option.isNone p0) == false) then
 some ([(.b (decide (n1<0)))],h)
 else some ([(.b true)],h)):Option (List AV × AH O)).bind fun r2=>
 (AV.aV (r2.1.getD 0 .u)).bind fun b3=>
 (bif b3 then
 none
 else Option.bind p0 fun q4=>
 (r2.2.ld q4.1 (q4.2+4)).bind fun w5=>
 (AV.ag .i64 w5).bind fun n6=>
 (bif (decide (n1 > n6)) then
 none
 else Option.bind p0 fun q7=>
 (r2.2.ld q7.1 (q7.2+4)).bind fun w8=>
 (AV.ag .i64 w8).bind fun n9=>
 Option.bind p0 fun nZ=>
 (r2.2.st nZ.1 (nZ.2+4) [(.i .i64 (IntKind.i64.wrap (n9 - n1)))]).bind fun iM=>
 some (J 0,iM)))
 else none
def uI:Sm O:=qM
theorem AY:aa Tryz.prog 358:=Tryz.call358
theorem AZ:run (O:=O) Tryz.prog [] Tryz.f358 (.n .z (.n (.n (.n (.g [(2,2,[(11,.one .b)])]) (.n .x (.n .z (.n .x .z)))) .z) (.n .z .z)))=qM:=by kernel_rfl
theorem xt:ae RO Tryz.prog 358 uI:=bt AZ (aA) Tryz.func358 (by kernel_rfl)
def xu (yR afr:Sm O):Sm O:=fun xs h=>
 bif Nat.beq xs.length 2 then
 (AV.aT (xs.getD 0 .u)).bind fun p0=>
 (AV.ag .i64 (xs.getD 1 .u)).bind fun n1=>
 (yR [(.p p0),J n1] h).bind fun r2=>
 (AV.aT r2.1).bind fun p3=>
 (bif (Option.isNone p3) then
 none
 else Option.bind p0 fun q4=>
 (r2.2.ld q4.1 q4.2).bind fun w5=>
 (AV.aT w5).bind fun p6=>
 Option.bind p3 fun q7=>
 (r2.2.ld q7.1 q7.2).bind fun w8=>
 (AV.aG w8).bind fun l9=>
 (afr [(.p p6),(.i .i64 (l9.2:Int))] r2.2).bind fun dw=>
 (AV.ag .i64 dw.1).bind fun dZ=>
 Option.bind p3 fun Kx=>
 (dw.2.st Kx.1 Kx.2 [N,(.b false)]).bind fun nk=>
 Option.bind p0 fun vj=>
 (nk.ld vj.1 (vj.2+2)).bind fun tx=>
 (AV.ag .i64 tx).bind fun jN=>
 Option.bind p0 fun Lo=>
 (nk.ld Lo.1 (Lo.2+3)).bind fun Ce=>
 (AV.ag .i64 Ce).bind fun kN=>
 Option.bind p0 fun q20=>
 (nk.st q20.1 (q20.2+2) [(.i .i64 (if n1<jN then n1 else jN))]).bind fun Rt=>
 Option.bind p0 fun q22=>
 (Rt.st q22.1 (q22.2+3) [(.i .i64 (IntKind.i64.wrap (kN - 1)))]).bind fun tW=>
 some (J 0,tW))
 else none
def sJ:Sm O:=xu o6 uI
theorem sK:aa Tryz.prog 306:=Tryz.call306
theorem F3 (yR afr:Sm O):run (O:=O) Tryz.prog [(319,yR),(358,afr)] Tryz.f306 (.n .z (.n .z (.n (.n .z (.n .x .z)) (.n (.d [] [0,1,2,3,4,5,6,7,8,9] [0,1,3,7,0,16,48,112,240,511]) (.n .z (.n (.d [] [0,1,2,3,4,5,6,7,8,9,10,11,12,13,14,15,16,17,18] [0,0,0,4,12,28,0,124,0,256,768,1792,3840,4093,12285,28669,65535,131071,262143]) .z))))))=xu yR afr:=by kernel_rfl
theorem pA:ae RO Tryz.prog 306 sJ:=bt (F3 _ _) (af kB iy <| af AY xt <| aA) Tryz.func306 (by kernel_rfl)
def A0 (n6:Int):List AV × AH O → Option ((List AV × AH O) ⊕ (List AV × AH O)):=(fun r7=>
 (AV.ag .i64 (r7.1.getD 0 .u)).bind fun n8=>
 (AV.ag .i64 (r7.1.getD 1 .u)).bind fun n9=>
 (AV.ag .i64 (r7.1.getD 2 .u)).bind fun cQ=>
 (bif (decide (cQ<n6)) then
 none
 else some (Sum.inr ([J n8,J n9],r7.2))))
def pB (La Au Ux:Sm O):Sm O:=fun xs h=>
 bif Nat.beq xs.length 1 then
 (AV.aT (xs.getD 0 .u)).bind fun p0=>
 Option.bind p0 fun q1=>
 (h.ld q1.1 (q1.2+5)).bind fun w2=>
 (AV.ag .i64 w2).bind fun n3=>
 Option.bind p0 fun q4=>
 (h.ld q4.1 ((q4.2+5)+2)).bind fun w5=>
 (AV.ag .i64 w5).bind fun n6=>
 (aQ (S:=List AV × AH O) (T:=List AV × AH O) (A0 n6) ([J 0,J 0,J 0],h)).bind fun oq=>
 (AV.ag .i64 (oq.1.getD 0 .u)).bind fun dy=>
 (AV.ag .i64 (oq.1.getD 1 .u)).bind fun fg=>
 Option.bind p0 fun vj=>
 (oq.2.st vj.1 (vj.2+5) [J 0,J 0,J 0]).bind fun oY=>
 Option.bind p0 fun Ug=>
 (oY.ld Ug.1 (Ug.2+10)).bind fun vk=>
 (AV.ag .i64 vk).bind fun jX=>
 Option.bind p0 fun Rc=>
 (oY.st Rc.1 (Rc.2+10) [(.i .i64 (IntKind.i64.wrap (jX - fg)))]).bind fun kQ=>
 some ((.aS [J dy,J fg]),kQ)
 else none
def sL:Sm O:=pB gy cY sJ
theorem ze:aa Tryz.prog 339:=Tryz.call339
theorem zf (La Au Ux:Sm O):run (O:=O) Tryz.prog [(307,La),(279,Au),(306,Ux)] Tryz.f339 (.n .z (.n .z (.n (.n .z (.n (.lp false 0 [(2,.one (.i .i64)),(3,.one (.i .i64)),(21,.one (.i .i64))] [(2,.one (.i .i64)),(3,.one (.i .i64))] (.n .z (.n (.n .x .z) (.n (.n (.n .z (.n .z (.n .z (.n .z (.n .z .z))))) .z) .z)))) .z)) (.n .z (.n .z .z)))))=pB La Au Ux:=by kernel_rfl
theorem vH:ae RO Tryz.prog 339 sL:=bt (zf _ _ _) (af gz fo <| af gu eX <| af sK pA <| aA) Tryz.func339 (by kernel_rfl)
def xv (Ux:Sm O):Sm O:=fun xs h=>
 bif Nat.beq xs.length 1 then
 (AV.aT (xs.getD 0 .u)).bind fun p0=>
 Option.bind p0 fun q1=>
 (h.ld q1.1 (q1.2+5)).bind fun w2=>
 (AV.aV w2).bind fun b3=>
 (bif (!b3) then
 none
 else Option.bind p0 fun q4=>
 (h.ld q4.1 q4.2).bind fun w5=>
 (AV.aT w5).bind fun p6=>
 Option.bind p0 fun q7=>
 (h.ld q7.1 (q7.2+3)).bind fun w8=>
 (AV.ag .i64 w8).bind fun n9=>
 (Ux [(.p p6),J n9] h).bind fun dw=>
 (AV.ag .i64 dw.1).bind fun dZ=>
 Option.bind p0 fun Kx=>
 (dw.2.st Kx.1 (Kx.2+3) [J 0,J 0]).bind fun nk=>
 Option.bind p0 fun vj=>
 (nk.st vj.1 (vj.2+5) [(.b false)]).bind fun oY=>
 some (J 0,oY))
 else none
def CF:Sm O:=xv sJ
theorem F4:aa Tryz.prog 340:=Tryz.call340
theorem F5 (Ux:Sm O):run (O:=O) Tryz.prog [(306,Ux)] Tryz.f340 (.n .z (.n (.n .z (.n .x .z)) (.n (.d [] [0,1,2,3,4,5,6,7,8,9] [0,1,3,7,0,16,48,112,240,511]) (.n .z .z))))=xv Ux:=by kernel_rfl
theorem CG:ae RO Tryz.prog 340 CF:=bt (F5 _) (af sK pA <| aA) Tryz.func340 (by kernel_rfl)
def HB (pz afs Hv Hw aft afu:Sm O):Sm O:=fun xs h=>
 bif Nat.beq xs.length 1 then
 (AV.aT (xs.getD 0 .u)).bind fun p0=>
 let h1:=h.bump 1
 let h2:=h1.put h.next (.cells true 183 [J 0,J 0,J 0])
 let h3:=h2.bump 1
 let h4:=h3.put h2.next (.cells true 183 [J 0,J 0,J 0])
 (pz [(.p p0)] h4).bind fun r5=>
 (AV.aT r5.1).bind fun p6=>
 (afs [(.p p6)] r5.2).bind fun r7=>
 (AV.ag .i64 r7.1).bind fun n8=>
 (pz [(.p p0)] r7.2).bind fun r9=>
 (AV.aT r9.1).bind fun Vz=>
 (Hv [(.p Vz)] r9.2).bind fun oq=>
 (AV.ag .i64 oq.1).bind fun dy=>
 let v13:Int:=(if 0 > (IntKind.i64.wrap (n8 - dy)) then 0 else (IntKind.i64.wrap (n8 - dy)))
 (oq.2.st (.n h2.next) 2 [J v13]).bind fun tu=>
 (Hw [(.p p0)] tu).bind fun ij=>
 (AV.aT ij.1).bind fun WT=>
 (aft [(.p WT)] ij.2).bind fun H6=>
 (AV.aE 2 H6.1).bind fun c18=>
 I6 c18 0 fun kN=>I6 c18 1 fun nv=>(H6.2.st (.n h2.next) 0 [J kN]).bind fun Rt=>
 (Rt.st (.n h2.next) 1 [J nv]).bind fun H5=>
 (pz [(.p p0)] H5).bind fun zG=>
 (AV.aT zG.1).bind fun p24=>
 (afu [(.p p24)] zG.2).bind fun Dz=>
 (AV.ag .i64 Dz.1).bind fun ji=>
 (Dz.2.ld (.n h2.next) 0).bind fun yM=>
 (AV.ag .i64 yM).bind fun jo=>
 (Dz.2.ld (.n h2.next) 1).bind fun yH=>
 (AV.ag .i64 yH).bind fun ot=>
 (Dz.2.ld (.n h2.next) 2).bind fun Cl=>
 (AV.ag .i64 Cl).bind fun lJ=>
 (Dz.2.st (.n h.next) 0 [J jo,J ot,J lJ]).bind fun h33=>
 (h33.ld (.n h.next) 0).bind fun w34=>
 (AV.ag .i64 w34).bind fun Vw=>
 (h33.ld (.n h.next) 1).bind fun Ui=>
 (AV.ag .i64 Ui).bind fun OX=>
 (h33.ld (.n h.next) 2).bind fun OG=>
 (AV.ag .i64 OG).bind fun Ot=>
 some ((.agg [J Vw,J OX,J Ot]),h33)
 else none
def Nv:Sm O:=HB eY uH mK gw sL CF
theorem Nw:aa Tryz.prog 300:=Tryz.call300
theorem Nx (pz afs Hv Hw aft afu:Sm O):run (O:=O) Tryz.prog [(239,pz),(338,afs),(327,Hv),(328,Hw),(339,aft),(340,afu)] Tryz.f300 (.n .z (.n .z (.n .z (.n .z (.n .z .z)))))=HB pz afs Hv Hw aft afu:=by kernel_rfl
theorem Jk:ae RO Tryz.prog 300 Nv:=bt (Nx _ _ _ _ _ _) (af eJ dG <| af AW xr <| af kV iZ <| af gx fk <| af ze vH <| af F4 CG <| aA) Tryz.func300 (by kernel_rfl)
def Ny:Sm O:=fun xs h=>
 bif Nat.beq xs.length 2 then
 (AV.asAgg 2 (xs.getD 0 .u)).bind fun c0=>
 (AV.ag .u64 (c0.getD 0 .u)).bind fun n1=>
 (AV.ag .u64 (c0.getD 1 .u)).bind fun n2=>
 (AV.asAgg 2 (xs.getD 1 .u)).bind fun c3=>
 (AV.ag .u64 (c3.getD 0 .u)).bind fun n4=>
 (AV.ag .u64 (c3.getD 1 .u)).bind fun n5=>
 let h6:=h.bump 2
 let h7:=h6.put h.next (.cells true 177 [(.i .u64 n1),(.i .u64 n2)])
 let h8:=h7.put (h.next+1) (.cells true 177 [(.i .u64 n4),(.i .u64 n5)])
 (h8.ld (.n h.next) 0).bind fun w9=>
 (AV.ag .u64 w9).bind fun cQ=>
 (h8.ld (.n h.next) 1).bind fun nm=>
 (AV.ag .u64 nm).bind fun dy=>
 (h8.ld (.n (h.next+1)) 0).bind fun tz=>
 (AV.ag .u64 tz).bind fun fW=>
 (h8.ld (.n (h.next+1)) 1).bind fun tx=>
 (AV.ag .u64 tx).bind fun jN=>
 (bif (((cQ:Int) == fW) && (((dy:Int) == jN) && true)) then
 some (J 0,h8)
 else (h8.ld (.n h.next) 0).bind fun vk=>
 (AV.ag .u64 vk).bind fun jX=>
 (h8.ld (.n (h.next+1)) 0).bind fun I5=>
 (AV.ag .u64 I5).bind fun nv=>
 ((bif ((decide (jX<nv)) == false) then
 (h8.ld (.n h.next) 0).bind fun yF=>
 (AV.ag .u64 yF).bind fun fC=>
 (h8.ld (.n (h.next+1)) 0).bind fun I1=>
 (AV.ag .u64 I1).bind fun rZ=>
 ((bif (((fC:Int) == rZ) == true) then
 (h8.ld (.n h.next) 1).bind fun FL=>
 (AV.ag .u64 FL).bind fun ji=>
 (h8.ld (.n (h.next+1)) 1).bind fun yM=>
 (AV.ag .u64 yM).bind fun jo=>
 some ([(.b (decide (ji<jo)))],h8)
 else some ([(.b false)],h8)):Option (List AV × AH O)).bind fun JT=>
 (AV.aV (JT.1.getD 0 .u)).bind fun b30=>
 some ([(.b b30)],JT.2)
 else some ([(.b true)],h8)):Option (List AV × AH O)).bind fun Lp=>
 (AV.aV (Lp.1.getD 0 .u)).bind fun b32=>
 (bif b32 then
 none
 else some (J 1,Lp.2)))
 else none
def Uy:Sm O:=Ny
theorem Sa:aa Tryz.prog 258:=Tryz.call258
theorem Sb:run (O:=O) Tryz.prog [] Tryz.f258 (.n .z (.n (.n (.n .z (.n .z (.n (.g [(5,12,[(28,.one .b)]),(11,5,[(27,.one .b)])]) (.n .x .z)))) .z) .z))=Ny:=by kernel_rfl
theorem Nz:ae RO Tryz.prog 258 Uy:=bt Sb (aA) Tryz.func258 (by kernel_rfl)
def Ka (afv:Sm O):Sm O:=fun xs h=>
 bif Nat.beq xs.length 2 then
 (AV.asAgg 2 (xs.getD 0 .u)).bind fun c0=>
 (AV.ag .u64 (c0.getD 0 .u)).bind fun n1=>
 (AV.ag .u64 (c0.getD 1 .u)).bind fun n2=>
 (AV.asAgg 2 (xs.getD 1 .u)).bind fun c3=>
 (AV.ag .u64 (c3.getD 0 .u)).bind fun n4=>
 (AV.ag .u64 (c3.getD 1 .u)).bind fun n5=>
 let h6:=h.bump 2
 let h7:=h6.put h.next (.cells true 177 [(.i .u64 n1),(.i .u64 n2)])
 let h8:=h7.put (h.next+1) (.cells true 177 [(.i .u64 n4),(.i .u64 n5)])
 (h8.ld (.n h.next) 0).bind fun w9=>
 (AV.ag .u64 w9).bind fun cQ=>
 (h8.ld (.n h.next) 1).bind fun nm=>
 (AV.ag .u64 nm).bind fun dy=>
 (h8.ld (.n (h.next+1)) 0).bind fun tz=>
 (AV.ag .u64 tz).bind fun fW=>
 (h8.ld (.n (h.next+1)) 1).bind fun tx=>
 (AV.ag .u64 tx).bind fun jN=>
 (afv [(.agg [(.i .u64 cQ),(.i .u64 dy)]),(.agg [(.i .u64 fW),(.i .u64 jN)])] h8).bind fun H6=>
 (AV.ag .i64 H6.1).bind fun jX=>
 some ((.b (decide (jX<0))),H6.2)
 else none
def Qj:Sm O:=Ka Uy
theorem O1:aa Tryz.prog 209:=Tryz.call209
theorem O2 (afv:Sm O):run (O:=O) Tryz.prog [(258,afv)] Tryz.f209 (.n .z .z)=Ka afv:=by kernel_rfl
theorem Lg:ae RO Tryz.prog 209 Qj:=bt (O2 _) (af Sa Nz <| aA) Tryz.func209 (by kernel_rfl)
def NA (afw aca:Sm O):Sm O:=fun xs h=>
 bif Nat.beq xs.length 2 then
 (AV.asAgg 2 (xs.getD 0 .u)).bind fun c0=>
 (AV.ag .u64 (c0.getD 0 .u)).bind fun n1=>
 (AV.ag .u64 (c0.getD 1 .u)).bind fun n2=>
 (AV.asAgg 2 (xs.getD 1 .u)).bind fun c3=>
 (AV.ag .u64 (c3.getD 0 .u)).bind fun n4=>
 (AV.ag .u64 (c3.getD 1 .u)).bind fun n5=>
 let h6:=h.bump 3
 let h7:=h6.put h.next (.cells true 177 [(.i .u64 n1),(.i .u64 n2)])
 let h8:=h7.put (h.next+1) (.cells true 177 [(.i .u64 n4),(.i .u64 n5)])
 let h9:=h8.put ((h.next+1)+1) (.cells true 177 [(.i .u64 0),(.i .u64 0)])
 (h9.ld (.n h.next) 0).bind fun wP=>
 (AV.ag .u64 wP).bind fun dZ=>
 (h9.ld (.n h.next) 1).bind fun tw=>
 (AV.ag .u64 tw).bind fun fg=>
 (h9.ld (.n (h.next+1)) 0).bind fun ou=>
 (AV.ag .u64 ou).bind fun gd=>
 (h9.ld (.n (h.next+1)) 1).bind fun vl=>
 (AV.ag .u64 vl).bind fun iO=>
 (afw [(.agg [(.i .u64 dZ),(.i .u64 fg)]),(.agg [(.i .u64 gd),(.i .u64 iO)])] h9).bind fun gb=>
 (AV.aV gb.1).bind fun b19=>
 (bif b19 then
 none
 else (gb.2.ld (.n h.next) 1).bind fun DL=>
 (AV.ag .u64 DL).bind fun vr=>
 (gb.2.ld (.n (h.next+1)) 1).bind fun IZ=>
 (AV.ag .u64 IZ).bind fun qo=>
 (aca [(.i .u64 vr),(.i .u64 qo),(.i .u64 0)] gb.2).bind fun tq=>
 (AV.aE 2 tq.1).bind fun XQ=>
 (AV.ag .u64 (XQ.getD 0 .u)).bind fun ji=>
 (AV.ag .u64 (XQ.getD 1 .u)).bind fun Ai=>
 (tq.2.ld (.n h.next) 0).bind fun Rv=>
 (AV.ag .u64 Rv).bind fun Lm=>
 (tq.2.ld (.n (h.next+1)) 0).bind fun w30=>
 (AV.ag .u64 w30).bind fun SH=>
 (aca [(.i .u64 Lm),(.i .u64 SH),(.i .u64 Ai)] tq.2).bind fun r32=>
 (AV.aE 2 r32.1).bind fun c33=>
 (AV.ag .u64 (c33.getD 0 .u)).bind fun wg=>
 (AV.ag .u64 (c33.getD 1 .u)).bind fun Vw=>
 (r32.2.st (.n ((h.next+1)+1)) 0 [(.i .u64 wg),(.i .u64 ji)]).bind fun h36=>
 (h36.ld (.n ((h.next+1)+1)) 0).bind fun M1=>
 (AV.ag .u64 M1).bind fun GV=>
 (h36.ld (.n ((h.next+1)+1)) 1).bind fun Zn=>
 (AV.ag .u64 Zn).bind fun n40=>
 some ((.aS [(.agg [(.i .u64 GV),(.i .u64 n40)]),(.b true)]),h36))
 else none
def Uz:Sm O:=NA Qj yg
theorem Sc:aa Tryz.prog 156:=Tryz.call156
theorem Sd (afw aca:Sm O):run (O:=O) Tryz.prog [(209,afw),(210,aca)] Tryz.f156 (.n .z (.n (.n .z (.n .x .z)) (.n .z (.n .z .z))))=NA afw aca:=by kernel_rfl
theorem NB:ae RO Tryz.prog 156 Uz:=bt (Sd _ _) (af O1 Lg <| aid Na <| aA) Tryz.func156 (by kernel_rfl)
def pC (Se afx:Sm O):Sm O:=fun xs h=>
 bif Nat.beq xs.length 2 then
 (AV.aT (xs.getD 0 .u)).bind fun p0=>
 (AV.asAgg 2 (xs.getD 1 .u)).bind fun c1=>
 (AV.ag .u64 (c1.getD 0 .u)).bind fun n2=>
 (AV.ag .u64 (c1.getD 1 .u)).bind fun n3=>
 let h4:=h.bump 2
 let h5:=h4.put h.next (.cells true 177 [(.i .u64 n2),(.i .u64 n3)])
 let h6:=h5.put (h.next+1) (.cells true 177 [(.i .u64 0),(.i .u64 0)])
 let h7:=h6.bump 1
 (h7.ld (.n h.next) 0).bind fun w8=>
 (AV.ag .u64 w8).bind fun n9=>
 (h7.ld (.n h.next) 1).bind fun wP=>
 (AV.ag .u64 wP).bind fun dZ=>
 (Se [(.p p0)] h7).bind fun fa=>
 (AV.asAgg 2 fa.1).bind fun c13=>
 (AV.ag .u64 (c13.getD 0 .u)).bind fun fW=>
 (AV.ag .u64 (c13.getD 1 .u)).bind fun gd=>
 (bc (fa.2.ld (.n h.next) 0) (some (.i .u64 n9))).bind fun _=>
 (bc (fa.2.ld (.n h.next) 1) (some (.i .u64 dZ))).bind fun _=>
 (afx [(.agg [(.i .u64 fW),(.i .u64 gd)]),(.agg [(.i .u64 n9),(.i .u64 dZ)])] fa.2).bind fun rn=>
 (AV.aE 2 rn.1).bind fun c17=>
 (AV.asAgg 2 (c17.getD 0 .u)).bind fun c18=>
 (AV.ag .u64 (c18.getD 0 .u)).bind fun kN=>
 (AV.ag .u64 (c18.getD 1 .u)).bind fun nv=>
 (AV.aV (c17.getD 1 .u)).bind fun b21=>
 let H5:=rn.2.put h6.next (.cells true 177 [(.i .u64 0),(.i .u64 0)])
 (H5.st (.n h6.next) 0 [(.i .u64 kN),(.i .u64 nv)]).bind fun tW=>
 (tW.ld (.n h6.next) 0).bind fun OJ=>
 (AV.ag .u64 OJ).bind fun wj=>
 (tW.ld (.n h6.next) 1).bind fun Ru=>
 (AV.ag .u64 Ru).bind fun Ai=>
 (tW.st (.n (h.next+1)) 0 [(.i .u64 wj),(.i .u64 Ai)]).bind fun H4=>
 (H4.ld (.n (h.next+1)) 0).bind fun yH=>
 (AV.ag .u64 yH).bind fun ot=>
 (H4.ld (.n (h.next+1)) 1).bind fun Cl=>
 (AV.ag .u64 Cl).bind fun lJ=>
 some ((.agg [(.i .u64 ot),(.i .u64 lJ)]),H4)
 else none
def eE:Sm O:=pC kU Uz
theorem mS:aa Tryz.prog 119:=Tryz.call119
theorem zg (Se afx:Sm O):run (O:=O) Tryz.prog [(157,Se),(156,afx)] Tryz.f119 (.n .z (.n (.d [] [0,2,1,3,4,5,6,7,8,9] [0,1,0,7,15,31,31,0,191,511]) .z))=pC Se afx:=by kernel_rfl
theorem kj:ae RO Tryz.prog 119 eE:=bt (zg _ _) (af mJ kg <| af Sc NB <| aA) Tryz.func119 (by kernel_rfl)
def xw (OV Se XU afy afz afA afB afC afD afE afF O3:Sm O):Sm O:=fun xs h=>
 bif Nat.beq xs.length 2 then
 (AV.aT (xs.getD 0 .u)).bind fun p0=>
 (AV.aT (xs.getD 1 .u)).bind fun p1=>
 let h2:=h.bump 1
 let h3:=h2.put h.next (.cells true 186 [J 0,J 0,J 0,J 0,J 0,J 0,J 0,(.i .u64 0),(.i .u64 0),(.p none)])
 let h4:=h3.bump 1
 (OV [(.p p0)] h4).bind fun r5=>
 (AV.aT r5.1).bind fun p6=>
 Option.bind p6 fun q7=>
 (r5.2.ld q7.1 q7.2).bind fun w8=>
 (AV.aT w8).bind fun p9=>
 (Se [(.p p9)] r5.2).bind fun dw=>
 (AV.asAgg 2 dw.1).bind fun WD=>
 (AV.ag .u64 (WD.getD 0 .u)).bind fun dy=>
 (AV.ag .u64 (WD.getD 1 .u)).bind fun fg=>
 let tu:=dw.2.put h3.next (.cells true 177 [(.i .u64 0),(.i .u64 0)])
 (tu.st (.n h3.next) 0 [(.i .u64 dy),(.i .u64 fg)]).bind fun oY=>
 let zI:=oY.bump 1
 (XU [] zI).bind fun H6=>
 (AV.aT H6.1).bind fun p18=>
 (afy [(.p p0)] H6.2).bind fun r19=>
 (AV.ag .i64 r19.1).bind fun nv=>
 let Rt:=r19.2.put oY.next (.cells true 378 [(.p p18),J nv,J 0,J 0,J 0,J 0,J 0,J 0,J 0,(.i .u64 0),(.i .u64 0),(.p none)])
 (afz [(.p p0),(.fn (some (.func 293,[(.p (some ((.n oY.next),0)))],[])))] Rt).bind fun tY=>
 (AV.aT tY.1).bind fun p23=>
 (afA [(.p p23)] tY.2).bind fun tq=>
 (AV.ag .i64 tq.1).bind fun wj=>
 (bif ((wj:Int) != 0) then
 none
 else (afB [(.p p1),(.fn (some (.func 296,[(.p p23)],[])))] tq.2).bind fun Ll=>
 (AV.aE 0 Ll.1).bind fun c27=>
 (afC [(.p p23)] Ll.2).bind fun Uc=>
 (AV.aT Uc.1).bind fun p29=>
 (afD [(.p p29)] Uc.2).bind fun DA=>
 (AV.ag .i64 DA.1).bind fun SH=>
 (afE [(.p p23),(.p p1)] DA.2).bind fun r32=>
 (AV.ag .i64 r32.1).bind fun RH=>
 (r32.2.st (.n oY.next) 5 [J RH]).bind fun OC=>
 (afF [(.p p0)] OC).bind fun WM=>
 (AV.asAgg 3 WM.1).bind fun c36=>
 I6 c36 0 fun OX=>I6 c36 1 fun GV=>I6 c36 2 fun Ot=>(WM.2.st (.n oY.next) 6 [J OX,J GV,J Ot]).bind fun wS=>
 (wS.ld (.n h3.next) 0).bind fun ZC=>
 (AV.ag .u64 ZC).bind fun Oe=>
 (wS.ld (.n h3.next) 1).bind fun ZF=>
 (AV.ag .u64 ZF).bind fun SI=>
 (OV [(.p p0)] wS).bind fun SJ=>
 (AV.aT SJ.1).bind fun p46=>
 (bc (SJ.2.ld (.n h3.next) 0) (some (.i .u64 Oe))).bind fun _=>
 (bc (SJ.2.ld (.n h3.next) 1) (some (.i .u64 SI))).bind fun _=>
 Option.bind p46 fun q47=>
 (SJ.2.ld q47.1 q47.2).bind fun ZE=>
 (AV.aT ZE).bind fun p49=>
 (O3 [(.p p49),(.agg [(.i .u64 Oe),(.i .u64 SI)])] SJ.2).bind fun r50=>
 (AV.asAgg 2 r50.1).bind fun c51=>
 (AV.ag .u64 (c51.getD 0 .u)).bind fun Zo=>
 (AV.ag .u64 (c51.getD 1 .u)).bind fun T'=>
 (r50.2.st (.n oY.next) 9 [(.i .u64 Zo),(.i .u64 T')]).bind fun h54=>
 (h54.ld (.n oY.next) 0).bind fun Zz=>
 (AV.aT Zz).bind fun p56=>
 (h54.st (.n oY.next) 11 [(.p p56)]).bind fun Rb=>
 (Rb.ld (.n oY.next) 2).bind fun w58=>
 (AV.ag .i64 w58).bind fun Zv=>
 (Rb.ld (.n oY.next) 3).bind fun w60=>
 (AV.ag .i64 w60).bind fun n61=>
 (Rb.ld (.n oY.next) 4).bind fun w62=>
 (AV.ag .i64 w62).bind fun n63=>
 (Rb.ld (.n oY.next) 5).bind fun w64=>
 (AV.ag .i64 w64).bind fun Vs=>
 (Rb.ld (.n oY.next) 6).bind fun w66=>
 (AV.ag .i64 w66).bind fun Z8=>
 (Rb.ld (.n oY.next) 7).bind fun w68=>
 (AV.ag .i64 w68).bind fun Rp=>
 (Rb.ld (.n oY.next) 8).bind fun w70=>
 (AV.ag .i64 w70).bind fun n71=>
 (Rb.ld (.n oY.next) 9).bind fun w72=>
 (AV.ag .u64 w72).bind fun n73=>
 (Rb.ld (.n oY.next) 10).bind fun w74=>
 (AV.ag .u64 w74).bind fun n75=>
 (Rb.ld (.n oY.next) 11).bind fun w76=>
 (AV.aT w76).bind fun p77=>
 (Rb.st (.n h.next) 0 [J Zv,J n61,J n63,J Vs,J Z8,J Rp,J n71,(.i .u64 n73),(.i .u64 n75),(.p p77)]).bind fun h78=>
 (h78.ld (.n h.next) 0).bind fun w79=>
 (AV.ag .i64 w79).bind fun n80=>
 (h78.ld (.n h.next) 1).bind fun w81=>
 (AV.ag .i64 w81).bind fun n82=>
 (h78.ld (.n h.next) 2).bind fun w83=>
 (AV.ag .i64 w83).bind fun n84=>
 (h78.ld (.n h.next) 3).bind fun w85=>
 (AV.ag .i64 w85).bind fun n86=>
 (h78.ld (.n h.next) 4).bind fun w87=>
 (AV.ag .i64 w87).bind fun n88=>
 (h78.ld (.n h.next) 5).bind fun w89=>
 (AV.ag .i64 w89).bind fun n90=>
 (h78.ld (.n h.next) 6).bind fun w91=>
 (AV.ag .i64 w91).bind fun n92=>
 (h78.ld (.n h.next) 7).bind fun w93=>
 (AV.ag .u64 w93).bind fun n94=>
 (h78.ld (.n h.next) 8).bind fun w95=>
 (AV.ag .u64 w95).bind fun n96=>
 (h78.ld (.n h.next) 9).bind fun w97=>
 (AV.aT w97).bind fun p98=>
 some ((.aS [(.agg [J n80,J n82,J n84,J n86,J n88,J n90,J n92,(.i .u64 n94),(.i .u64 n96),(.p p98)]),J 0]),h78))
 else none
def mT:Sm O:=xw eg kU FN sA Ut uA uB Uu CD J' Nv eE
theorem F6:aa Tryz.prog 242:=Tryz.call242
theorem F7 (OV Se XU afy afz afA afB afC afD afE afF O3:Sm O):run (O:=O) Tryz.prog [(83,OV),(157,Se),(87,XU),(291,afy),(292,afz),(294,afA),(295,afB),(297,afC),(298,afD),(299,afE),(300,afF),(119,O3)] Tryz.f242 (.n .z (.n .z (.n .z (.n .z (.n (.n .z (.n .z (.n .x .z))) (.n .z (.n .z (.n .z (.n .z (.n (.d [] [0,1,6,2,3,4,5,7,8,9,10,11] [0,0,2,6,14,30,0,126,255,511,1023,2047]) (.n .z .z)))))))))))=xw OV Se XU afy afz afA afB afC afD afE afF O3:=by kernel_rfl
theorem CH:ae RO Tryz.prog 242 mT:=bt (F7 _ _ _ _ _ _ _ _ _ _ _ _) (af iU gq <| af mJ kg <| af Cm wZ <| af yX vC <| af RZ Ns <| af AD xk <| af AJ xo <| af R4 Nu <| af F1 CE <| af Le HA <| af Nw Jk <| af mS kj <| aA) Tryz.func242 (by kernel_rfl)
def NC (Rg:Sm O):Sm O:=fun xs h=>
 bif Nat.beq xs.length 1 then
 (AV.ag .u64 (xs.getD 0 .u)).bind fun n0=>
 (Rg [(.i .u64 n0)] h).bind fun r1=>
 (AV.ag .i64 r1.1).bind fun n2=>
 some (J n2,r1.2)
 else none
def HC:Sm O:=NC oe
theorem Sf:aa Tryz.prog 302:=Tryz.call302
theorem Sg (Rg:Sm O):run (O:=O) Tryz.prog [(100,Rg)] Tryz.f302 (.n .z (.n (.n .x .z) .z))=NC Rg:=by kernel_rfl
theorem ND:ae RO Tryz.prog 302 HC:=bt (Sg _) (af B' wQ <| aA) Tryz.func302 (by kernel_rfl)
def gE (n2:Int):List AV × AH O → Option ((List AV × AH O) ⊕ (List AV × AH O)):=(fun r4=>
 (AV.ag .i64 (r4.1.getD 0 .u)).bind fun n5=>
 (bif (decide (n5<n2)) then
 none
 else some (Sum.inr ([],r4.2))))
def dh:Sm O:=fun xs h=>
 bif Nat.beq xs.length 4 then
 (AV.aG (xs.getD 0 .u)).bind fun l0=>
 (AV.ag .i64 (xs.getD 1 .u)).bind fun n1=>
 (AV.ag .i64 (xs.getD 2 .u)).bind fun n2=>
 (AV.Qt (xs.getD 3 .u)).bind fun f3=>
 (aQ (S:=List AV × AH O) (T:=List AV × AH O) (gE n2) ([(.i .i64 (IntKind.i64.wrap (n1+1)))],h)).bind fun r6=>
 some ((.aS []),r6.2)
 else none
def bD:Sm O:=dh
theorem fX:aa Tryz.prog 341:=Tryz.call341
theorem fY:run (O:=O) Tryz.prog [] Tryz.f341 (.n .z (.n (.lp false 0 [(8,.one (.i .i64))] [] (.n (.n .z (.n .x .z)) (.n (.n (.n .z (.n (.lp false 1000000 [(9,.one (.i .i64))] [] (.n (.n (.d [(3,12,[(34,.one .b)])] [0,1,2,3,4,5,6,7,8,9,10,11,12,13,14,15,16] [0,0,3,7,15,15,15,111,239,15,15,1039,3599,7695,16383,32767,65535]) (.n .x .x)) (.n (.n (.d [] [0,1,2,3,4,5,6,7,8,9,10,11,12,13,14,15,16,17] [0,0,0,0,8,0,0,64,224,480,0,0,3072,7168,16355,32739,65535,131071]) .z) .z))) .z)) .z) .z))) .z))=dh:=by kernel_rfl
theorem fD:ae RO Tryz.prog 341 bD:=bt fY (aA) Tryz.func341 (by kernel_rfl)
def jT (ZH:Sm O) (l0:SA × Nat) (f4:Option (Fn × List AV × List AV)):List AV × AH O → Option ((List AV × AH O) ⊕ ((List AV × AH O) ⊕ (AV × AH O))):=(fun r5=>
 (AV.ag .i64 (r5.1.getD 0 .u)).bind fun n6=>
 (AV.ag .i64 (r5.1.getD 1 .u)).bind fun n7=>
 (bif (decide ((IntKind.i64.wrap (n7 - n6)) ≤ 12)) then
 (ZH [L l0,J n6,J n7,(.fn f4)] r5.2).bind fun r8=>
 (AV.aE 0 r8.1).bind fun c9=>
 ((some ((.aS []),r8.2):Option (AV × AH O)).map fun r=>Sum.inr (Sum.inr r))
 else none))
def cA (ZH UA:Sm O):Sm O:=fun xs h=>
 bif Nat.beq xs.length 5 then
 (AV.aG (xs.getD 0 .u)).bind fun l0=>
 (AV.ag .i64 (xs.getD 1 .u)).bind fun n1=>
 (AV.ag .i64 (xs.getD 2 .u)).bind fun n2=>
 (AV.ag .i64 (xs.getD 3 .u)).bind fun n3=>
 (AV.Qt (xs.getD 4 .u)).bind fun f4=>
 bK (S:=List AV × AH O) (R:=(AV × AH O)) (aQ (S:=List AV × AH O) (T:=(List AV × AH O) ⊕ (AV × AH O)) (jT ZH l0 f4) ([J n1,J n2],h)) fun dw=>
 none
 else none
def bh (F:Nat):Sm O:=Nat.rec (motive:=fun _=>Sm O) (fun _ _=>none) (fun F self=>cA bD self) F
theorem dH:aa Tryz.prog 301:=Tryz.call301
theorem jv (ZH UA:Sm O):run (O:=O) Tryz.prog [(341,ZH),(301,UA)] Tryz.f301 (.n .z (.n .z (.n (.lp true 1000000 [(1,.one (.i .i64)),(2,.one (.i .i64))] [] (.n (.n .z (.n (.n .z (.n .z .x)) (.n (.n .z (.n .x .x)) (.n (.n .z (.n .x .x)) (.n .z (.n (.n .z (.n .x .x)) (.n (.n (.g [(1,1,[(71,.one .b)]),(4,2,[(75,.one .b)])]) (.n .x .x)) (.n (.n (.d [(2,13,[(97,.one .b)])] [0,1,2,3,4,5,6,7,8,9,10,11,12,13,14,15,16] [0,1,3,7,7,7,39,119,247,7,7,1543,3591,8191,16383,32767,65535]) (.n .x .x)) (.n .z (.n .z (.n .z (.n .z (.n .z (.n .x .x)))))))))))))) .z)) .z)))=cA ZH UA:=by kernel_rfl
theorem iD (F:Nat):ae RO Tryz.prog 301 (bh F):=by
   induction F with
   |zero=>exact fun xs h v h' h=>by cases (show (none:Option (AV × AH O))=some _ from h)
   |succ F ih=>
     have h:ae RO Tryz.prog 301 (cA bD (bh F)):=(jv bD (bh F))▸aU (af fX (fD) <| af dH ih <| aA) mixed Tryz.func301 (by kernel_rfl) _
     exact h
def dD (afG UA:Sm O):Sm O:=fun xs h=>
 bif Nat.beq xs.length 2 then
 (AV.aG (xs.getD 0 .u)).bind fun l0=>
 (AV.Qt (xs.getD 1 .u)).bind fun f1=>
 (afG [(.i .u64 (IntKind.u64.wrap (l0.2:Int)))] h).bind fun r2=>
 (AV.ag .i64 r2.1).bind fun n3=>
 (UA [L l0,J 0,(.i .i64 (l0.2:Int)),J n3,(.fn f1)] r2.2).bind fun r4=>
 (AV.aE 0 r4.1).bind fun c5=>
 some ((.aS []),r4.2)
 else none
def cP (F:Nat):Sm O:=dD HC (bh F)
theorem np:aa Tryz.prog 244:=Tryz.call244
theorem nq (afG UA:Sm O):run (O:=O) Tryz.prog [(302,afG),(301,UA)] Tryz.f244 .z=dD afG UA:=by kernel_rfl
theorem lM (F:Nat):ae RO Tryz.prog 244 (cP F):=
   have h:ae RO Tryz.prog 244 (dD HC (bh F)):=(nq HC (bh F))▸aU (af Sf (ND) <| af dH (iD F) <| aA) mixed Tryz.func244 (by kernel_rfl) _
   h
def gZ (afH:Sm O):Sm O:=fun xs h=>
 bif Nat.beq xs.length 1 then
 (AV.aT (xs.getD 0 .u)).bind fun p0=>
 (bif (Option.isNone p0) then
 none
 else let h1:=h.bump 1
 Option.bind p0 fun q2=>
 (h1.ld q2.1 q2.2).bind fun w3=>
 (AV.VI w3).bind fun m4=>
 (VK h1 (.mp m4)).bind fun q5=>
 let h6:=h1.put h.next (.iter q5.1 [] q5.2.1 q5.2.2)
 (ahP h6 (.p (some ((.n h.next),0)))).bind fun q7=>
 (VL h6 q7.1 q7.2.1 [] q7.2.2.1 q7.2.2.2).bind fun _=>
 (Dj (S:=List AV × AH O) (fun i8 dn9 dw=>
 (AV.aG (dw.1.getD 0 .u)).bind fun l12=>
 let iM:=dw.2.put q7.1 (.iter q7.2.1 (dn9++[i8]) q7.2.2.1 q7.2.2.2)
 let nk:=iM.bump 2
 (ahO nk (.p (some ((.n h.next),0)))).bind fun vj=>
 (AV.asAgg 3 vj.1).bind fun c15=>
 I6 c15 0 fun jN=>I6 c15 1 fun iO=>I6 c15 2 fun jX=>(AV.asAgg 2 vj.2).bind fun Ro=>
 I6 Ro 0 fun nv=>I6 Ro 1 fun vr=>let H5:=nk.put iM.next (.cells true 308 [J 0,J 0,J 0])
 let tW:=H5.put (iM.next+1) (.cells true 231 [J 0,J 0])
 (tW.st (.n iM.next) 0 [J jN,J iO,J jX]).bind fun P'=>
 (P'.st (.n (iM.next+1)) 0 [J nv,J vr]).bind fun Vy=>
 let h26:=Vy.bump 2
 (h26.ld (.n iM.next) 0).bind fun yM=>
 (AV.ag .i64 yM).bind fun jo=>
 (h26.ld (.n iM.next) 1).bind fun yH=>
 (AV.ag .i64 yH).bind fun ot=>
 (h26.ld (.n iM.next) 2).bind fun Cl=>
 (AV.ag .i64 Cl).bind fun lJ=>
 (h26.ld (.n (iM.next+1)) 0).bind fun FE=>
 (AV.ag .i64 FE).bind fun wg=>
 (h26.ld (.n (iM.next+1)) 1).bind fun Rw=>
 (AV.ag .i64 Rw).bind fun GU=>
 let Vr:=h26.put Vy.next (.cells true 310 [J jo,J ot,J lJ,J wg,J GU])
 (Vr.bC (.loc (.n Vy.next) 0 5) 1 5).bind fun ank=>
 (bif (Nat.ble ((l12.2+1)*41) 35184372088832) then
 (Vr.bP (Vy.next+1) 310 5 l12.1 l12.2 1 ank).bind fun WG=>
 (AV.aG WG.1).bind fun P8=>
 (VL WG.2 q7.1 q7.2.1 (dn9++[i8]) q7.2.2.1 q7.2.2.2).bind fun _=>
 some ([L P8],WG.2.put q7.1 (.iter q7.2.1 [] q7.2.2.1 q7.2.2.2))
 else none)) q7.2.2.1.length ([N],h6)).bind fun Of=>
 (AV.aG (Of.1.getD 0 .u)).bind fun l43=>
 let GW:=Of.2.kill q7.1
 (afH [L l43,(.fn (some (.func 245,[],[])))] GW).bind fun Ua=>
 (AV.aE 0 Ua.1).bind fun c45=>
 some (L l43,Ua.2))
 else none
def fI (F:Nat):Sm O:=gZ (cP F)
theorem xy:aa Tryz.prog 195:=Tryz.call195
theorem xz (afH:Sm O):run (O:=O) Tryz.prog [(244,afH)] Tryz.f195 (.n .z (.n (.n .z (.n .x .z)) (.n .z (.n (.n .z (.n (.lm [(3,.one .sl)] (.n .z .z)) .z)) (.n .z .z)))))=gZ afH:=by kernel_rfl
theorem tG (F:Nat):ae RO Tryz.prog 195 (fI F):=
   have h:ae RO Tryz.prog 195 (gZ (cP F)):=(xz (cP F))▸aU (af np (lM F) <| aA) mixed Tryz.func195 (by kernel_rfl) _
   h
def HD:Sm O:=fun xs h=>
 bif Nat.beq xs.length 2 then
 (AV.ag .i64 (xs.getD 0 .u)).bind fun n0=>
 (AV.ag .i64 (xs.getD 1 .u)).bind fun n1=>
 ((bif ((decide (n0 ≥ 0)) == true) then
 some ([(.b (decide (n0<32)))],h)
 else some ([(.b false)],h)):Option (List AV × AH O)).bind fun r2=>
 (AV.aV (r2.1.getD 0 .u)).bind fun b3=>
 ((bif (b3 == true) then
 some ([(.b (decide (n1 ≥ 0)))],r2.2)
 else some ([(.b false)],r2.2)):Option (List AV × AH O)).bind fun r4=>
 (AV.aV (r4.1.getD 0 .u)).bind fun b5=>
 ((bif (b5 == true) then
 some ([(.b (decide (n1<7)))],r4.2)
 else some ([(.b false)],r4.2)):Option (List AV × AH O)).bind fun r6=>
 (AV.aV (r6.1.getD 0 .u)).bind fun b7=>
 some ((.b b7),r6.2)
 else none
def sM:Sm O:=HD
theorem CI:aa Tryz.prog 254:=Tryz.call254
theorem NF:run (O:=O) Tryz.prog [] Tryz.f254 (.n .z (.n (.g [(2,2,[(10,.one .b)]),(6,2,[(14,.one .b)]),(10,2,[(18,.one .b)])]) .z))=HD:=by kernel_rfl
theorem xC:ae RO Tryz.prog 254 sM:=bt NF (aA) Tryz.func254 (by kernel_rfl)
def xD (l8:SA × Nat):List AV × AH O → Option ((List AV × AH O) ⊕ (List AV × AH O)):=(fun r9=>
 (AV.ag .i64 (r9.1.getD 0 .u)).bind fun cQ=>
 (bif (decide (cQ<(l8.2:Int))) then
 none
 else some (Sum.inr ([],r9.2))))
def gF (afI UB:Sm O):Sm O:=fun xs h=>
 bif Nat.beq xs.length 2 then
 (AV.aT (xs.getD 0 .u)).bind fun p0=>
 (AV.aT (xs.getD 1 .u)).bind fun p1=>
 Option.bind p0 fun q2=>
 (h.ld q2.1 (q2.2+224)).bind fun w3=>
 (AV.ag .i64 w3).bind fun n4=>
 Option.bind p0 fun q5=>
 (h.st q5.1 (q5.2+224) [(.i .i64 (IntKind.i64.wrap (n4+1)))]).bind fun h6=>
 (afI [(.p p1)] h6).bind fun r7=>
 (AV.aG r7.1).bind fun l8=>
 (aQ (S:=List AV × AH O) (T:=List AV × AH O) (xD l8) ([J 0],r7.2)).bind fun oq=>
 some ((.aS []),oq.2)
 else none
def e7 (F:Nat):Sm O:=gF (fI F) sM
theorem vI:aa Tryz.prog 243:=Tryz.call243
theorem vJ (afI UB:Sm O):run (O:=O) Tryz.prog [(195,afI),(254,UB)] Tryz.f243 (.n .z (.n .z (.n (.lp false 0 [(16,.one (.i .i64))] [] (.n .z (.n (.n .x .z) (.n (.n (.n .z (.n (.g [(4,7,[(32,.one .b)])]) (.n .x .x))) .z) .z)))) .z)))=gF afI UB:=by kernel_rfl
theorem sN (F:Nat):ae RO Tryz.prog 243 (e7 F):=
   have h:ae RO Tryz.prog 243 (gF (fI F) sM):=(vJ (fI F) sM)▸aU (af xy (tG F) <| af CI (xC) <| aA) mixed Tryz.func243 (by kernel_rfl) _
   h
def i6 (afJ afK Sh:Sm O):Sm O:=fun xs h=>
 bif Nat.beq xs.length 1 then
 (AV.aT (xs.getD 0 .u)).bind fun p0=>
 Option.bind p0 fun q1=>
 (h.ld q1.1 (q1.2+5)).bind fun w2=>
 (AV.aT w2).bind fun p3=>
 Option.bind p0 fun q4=>
 (h.ld q4.1 (q4.2+6)).bind fun w5=>
 (AV.aT w5).bind fun p6=>
 (afJ [(.p p3),(.p p6)] h).bind fun r7=>
 (AV.aE 2 r7.1).bind fun c8=>
 (AV.asAgg 10 (c8.getD 0 .u)).bind fun c9=>
 I6 c9 0 fun cQ=>I6 c9 1 fun dZ=>I6 c9 2 fun dy=>I6 c9 3 fun fg=>I6 c9 4 fun fW=>I6 c9 5 fun gd=>I6 c9 6 fun jN=>(AV.ag .u64 (c9.getD 7 .u)).bind fun iO=>
 (AV.ag .u64 (c9.getD 8 .u)).bind fun jX=>
 (AV.aT (c9.getD 9 .u)).bind fun p19=>
 I6 c8 1 fun nv=>Option.bind p0 fun MM=>
 (r7.2.st MM.1 (MM.2+21) [J cQ,J dZ,J dy,J fg,J fW,J gd,J jN,(.i .u64 iO),(.i .u64 jX),(.p p19)]).bind fun H5=>
 Option.bind p0 fun KV=>
 (H5.ld KV.1 ((KV.2+21)+1)).bind fun OJ=>
 (AV.ag .i64 OJ).bind fun wj=>
 Option.bind p0 fun q26=>
 (H5.st q26.1 (q26.2+31) [J wj]).bind fun Rf=>
 Option.bind p0 fun q28=>
 (Rf.ld q28.1 (q28.2+20)).bind fun yH=>
 (AV.aT yH).bind fun p30=>
 Option.bind p0 fun q31=>
 (Rf.ld q31.1 ((q31.2+21)+9)).bind fun w32=>
 (AV.aT w32).bind fun p33=>
 (afK [(.p p30),(.p p33)] Rf).bind fun r34=>
 (AV.aE 0 r34.1).bind fun c35=>
 Option.bind p0 fun q36=>
 (r34.2.ld q36.1 (q36.2+32)).bind fun M1=>
 (AV.ag .i64 M1).bind fun GV=>
 Option.bind p0 fun q39=>
 (r34.2.st q39.1 (q39.2+32) [(.i .i64 (IntKind.i64.wrap (GV+1)))]).bind fun wS=>
 (Sh [(.p p0)] wS).bind fun Of=>
 (AV.ag .i64 Of.1).bind fun Oe=>
 Option.bind p0 fun Gn=>
 (Of.2.st Gn.1 ((Gn.2+32)+6) [J Oe]).bind fun h44=>
 Option.bind p0 fun q45=>
 (h44.ld q45.1 ((q45.2+32)+6)).bind fun WJ=>
 (AV.ag .i64 WJ).bind fun Rx=>
 some (J Rx,h44)
 else none
def gG (F:Nat):Sm O:=i6 mT (e7 F) dL
theorem zh:aa Tryz.prog 193:=Tryz.call193
theorem zi (afJ afK Sh:Sm O):run (O:=O) Tryz.prog [(242,afJ),(243,afK),(220,Sh)] Tryz.f193 (.n .z (.n (.d [] [0,1,2,3,4,5,6,7,8,9,10,11,12,13,14,15] [0,0,2,6,14,0,32,96,224,510,1022,2046,2046,4095,12287,28671]) (.n .z (.n (.d [] [0,1,2,3,4,5,6,7,8,9] [0,1,3,7,0,16,48,112,240,511]) (.n .z (.n .z .z))))))=i6 afJ afK Sh:=by kernel_rfl
theorem vK (F:Nat):ae RO Tryz.prog 193 (gG F):=
   have h:ae RO Tryz.prog 193 (i6 mT (e7 F) dL):=(zi mT (e7 F) dL)▸aU (af F6 (CH) <| af vI (sN F) <| af qB (nH) <| aA) mixed Tryz.func193 (by kernel_rfl) _
   h
def mU (w:Words O) (yT:Sm O):Sm O:=fun xs h=>
 bif Nat.beq xs.length 3 then
 (AV.asAgg 8 (xs.getD 0 .u)).bind fun c0=>
 w.U0 c0 fun n1 n2 n3 n4 n5 n6 n7 n8=>
 (AV.ag .i64 (xs.getD 1 .u)).bind fun n9=>
 (AV.ag .i64 (xs.getD 2 .u)).bind fun cQ=>
 let iM:=h.bump 1
 let G9:=iM.put h.next (.cells true 168 (P1 n1 n2 n3 n4 n5 n6 n7 n8))
 (G9.ld (.n h.next) 0).bind fun tz=>
 (AV.ag .i64 tz).bind fun fW=>
 (yT [J n9,J cQ,J fW] G9).bind fun ij=>
 (AV.aV ij.1).bind fun WN=>
 some ((.b (!WN)),ij.2)
 else none
def uJ (yT:Sm O):Sm O:=mU js yT
def z7:Sm O:=uJ Ji
theorem D6:aa Tryz.prog 287:=Tryz.call287
theorem D7 (yT:Sm O):run (O:=O) Tryz.prog [(267,yT)] Tryz.f287 (.n .z .z)=uJ yT:=
 (show run (O:=O) Tryz.prog [(267,yT)] Tryz.f287 (.n .z .z)=mU jr yT by kernel_rfl).trans (congrArg (fun w=>mU w yT) se)
theorem A4:ae RO Tryz.prog 287 z7:=bt (D7 _) (af EP zS <| aA) Tryz.func287 (by kernel_rfl)
def CJ:Sm O:=fun xs h=>
 bif Nat.beq xs.length 2 then
 (AV.asAgg 5 (xs.getD 0 .u)).bind fun c0=>
 I6 c0 0 fun n1=>I6 c0 1 fun n2=>I6 c0 2 fun n3=>I6 c0 3 fun n4=>I6 c0 4 fun n5=>(AV.ag .i64 (xs.getD 1 .u)).bind fun n6=>
 let h7:=h.bump 1
 let h8:=h7.put h.next (.cells true 121 [J n1,J n2,J n3,J n4,J n5])
 (h8.ld (.n h.next) 0).bind fun w9=>
 (AV.ag .i64 w9).bind fun cQ=>
 let v11:Int:=(if cQ<(if 0 > n6 then 0 else n6) then cQ else (if 0 > n6 then 0 else n6))
 (h8.ld (.n h.next) 1).bind fun tw=>
 (AV.ag .i64 tw).bind fun fg=>
 (h8.ld (.n h.next) 0).bind fun ou=>
 (AV.ag .i64 ou).bind fun gd=>
 let v16:Int:=(if gd<(IntKind.i64.wrap (2*v11)) then gd else (IntKind.i64.wrap (2*v11)))
 some ((.i .i64 (if v16 > fg then v16 else fg)),h8)
 else none
def HE:Sm O:=CJ
theorem Jl:aa Tryz.prog 322:=Tryz.call322
theorem Jm:run (O:=O) Tryz.prog [] Tryz.f322 (.n .z (.n .z .z))=CJ:=by kernel_rfl
theorem F8:ae RO Tryz.prog 322 HE:=bt Jm (aA) Tryz.func322 (by kernel_rfl)
def CK (afL:Sm O):Sm O:=fun xs h=>
 bif Nat.beq xs.length 3 then
 (AV.asAgg 5 (xs.getD 0 .u)).bind fun c0=>
 I6 c0 0 fun n1=>I6 c0 1 fun n2=>I6 c0 2 fun n3=>I6 c0 3 fun n4=>I6 c0 4 fun n5=>(AV.asAgg 2 (xs.getD 1 .u)).bind fun c6=>
 I6 c6 0 fun n7=>I6 c6 1 fun n8=>(AV.ag .i64 (xs.getD 2 .u)).bind fun n9=>
 let gS:=h.bump 3
 let iM:=gS.put h.next (.cells true 121 [J n1,J n2,J n3,J n4,J n5])
 let G9:=iM.put (h.next+1) (.cells true 166 [J n7,J n8])
 let nk:=G9.put ((h.next+1)+1) (.cells true 166 [J 0,J 0])
 (nk.ld (.n h.next) 0).bind fun ou=>
 (AV.ag .i64 ou).bind fun gd=>
 (nk.ld (.n h.next) 1).bind fun vl=>
 (AV.ag .i64 vl).bind fun iO=>
 (nk.ld (.n h.next) 2).bind fun Ce=>
 (AV.ag .i64 Ce).bind fun kN=>
 (nk.ld (.n h.next) 3).bind fun DL=>
 (AV.ag .i64 DL).bind fun vr=>
 (nk.ld (.n h.next) 4).bind fun IZ=>
 (AV.ag .i64 IZ).bind fun qo=>
 (afL [(.agg [J gd,J iO,J kN,J vr,J qo]),J n9] nk).bind fun tq=>
 (AV.ag .i64 tq.1).bind fun wj=>
 (tq.2.ld (.n (h.next+1)) 0).bind fun Ru=>
 (AV.ag .i64 Ru).bind fun Ai=>
 (bif (decide (Ai<wj)) then
 (tq.2.st (.n ((h.next+1)+1)) 0 [J wj,J 0]).bind fun H4=>
 (H4.ld (.n ((h.next+1)+1)) 0).bind fun yH=>
 (AV.ag .i64 yH).bind fun ot=>
 (H4.ld (.n ((h.next+1)+1)) 1).bind fun Cl=>
 (AV.ag .i64 Cl).bind fun lJ=>
 some ((.agg [J ot,J lJ]),H4)
 else none)
 else none
def HF:Sm O:=CK HE
theorem Jn:aa Tryz.prog 288:=Tryz.call288
theorem Jo (afL:Sm O):run (O:=O) Tryz.prog [(322,afL)] Tryz.f288 (.n .z (.n .z (.n (.n (.n .z (.n .z .x)) .z) .z)))=CK afL:=by kernel_rfl
theorem F9:ae RO Tryz.prog 288 HF:=bt (Jo _) (af Jl F8 <| aA) Tryz.func288 (by kernel_rfl)
def kW (w:Words O) (Si Sj:Sm O):Sm O:=fun xs h=>
 bif Nat.beq xs.length 3 then
 (AV.asAgg 8 (xs.getD 0 .u)).bind fun c0=>
 w.U0 c0 fun n1 n2 n3 n4 n5 n6 n7 n8=>
 (AV.ag .i64 (xs.getD 1 .u)).bind fun n9=>
 (AV.ag .i64 (xs.getD 2 .u)).bind fun cQ=>
 let iM:=h.bump 2
 let G9:=iM.put h.next (.cells true 168 (P1 n1 n2 n3 n4 n5 n6 n7 n8))
 let nk:=G9.put (h.next+1) (.cells true 168 P0)
 w.W0 nk (.n h.next) 0 fun gd iO kN vr qo wj Ai Lm=>
 (Si [(.agg (P1 gd iO kN vr qo wj Ai Lm)),J n9,J cQ] nk).bind fun DA=>
 (AV.aV DA.1).bind fun b31=>
 (DA.2.ld (.n h.next) 0).bind fun w32=>
 (AV.ag .i64 w32).bind fun RH=>
 let v34:Int:=(if RH<(if 0 > n9 then 0 else n9) then RH else (if 0 > n9 then 0 else n9))
 (bif b31 then
 let v35:Int:=(IntKind.i64.wrap (v34+(if 0 > cQ then 0 else cQ)))
 (DA.2.ld (.n h.next) 0).bind fun Ui=>
 (AV.ag .i64 Ui).bind fun OX=>
 (DA.2.ld (.n h.next) 1).bind fun OG=>
 (AV.ag .i64 OG).bind fun Ot=>
 (DA.2.ld (.n h.next) 2).bind fun WR=>
 (AV.ag .i64 WR).bind fun Ou=>
 (DA.2.ld (.n h.next) 3).bind fun WS=>
 (AV.ag .i64 WS).bind fun KC=>
 (DA.2.ld (.n h.next) 4).bind fun ZD=>
 (AV.ag .i64 ZD).bind fun Ov=>
 (DA.2.ld (.n h.next) 5).bind fun WJ=>
 (AV.ag .i64 WJ).bind fun Rx=>
 (DA.2.ld (.n h.next) 6).bind fun ZE=>
 (AV.ag .i64 ZE).bind fun Ry=>
 (Sj [(.agg [J OX,J Ot,J Ou,J KC,J Ov]),(.agg [J Rx,J Ry]),J v35] DA.2).bind fun r50=>
 (AV.asAgg 2 r50.1).bind fun c51=>
 I6 c51 0 fun Zo=>I6 c51 1 fun T'=>(r50.2.st (.n h.next) 5 [J Zo,J T']).bind fun h54=>
 (h54.st (.n h.next) 7 [J v35]).bind fun Zt=>
 w.W0 Zt (.n h.next) 0 fun n57 Zv n61 n63 Vs Z8 Rp n71=>
 (Zt.st (.n (h.next+1)) 0 (P1 n57 Zv n61 n63 Vs Z8 Rp n71)).bind fun h72=>
 w.W0 h72 (.n (h.next+1)) 0 fun n74 n76 n78 n80 n82 n84 n86 n88=>
 some ((.aS [(.agg (P1 n74 n76 n78 n80 n82 n84 n86 n88)),(.b b31)]),h72)
 else none)
 else none
def sO (Si Sj:Sm O):Sm O:=kW js Si Sj
def xE:Sm O:=sO z7 HF
theorem CL:aa Tryz.prog 238:=Tryz.call238
theorem CM (Si Sj:Sm O):run (O:=O) Tryz.prog [(287,Si),(288,Sj)] Tryz.f238 (.n .z (.n .z (.n .z (.n (.n .z (.n .z .x)) (.n .z (.n .z .z))))))=sO Si Sj:=
 (show run (O:=O) Tryz.prog [(287,Si),(288,Sj)] Tryz.f238 (.n .z (.n .z (.n .z (.n (.n .z (.n .z .x)) (.n .z (.n .z .z))))))=kW jr Si Sj by kernel_rfl).trans (congrArg (fun w=>kW w Si Sj) se)
theorem zj:ae RO Tryz.prog 238 xE:=bt (CM _ _) (af D6 A4 <| af Jn F9 <| aA) Tryz.func238 (by kernel_rfl)
def z8 (yR:Sm O):Sm O:=fun xs h=>
 bif Nat.beq xs.length 2 then
 (AV.aT (xs.getD 0 .u)).bind fun p0=>
 (AV.ag .i64 (xs.getD 1 .u)).bind fun n1=>
 (yR [(.p p0),J n1] h).bind fun r2=>
 (AV.aT r2.1).bind fun p3=>
 (bif (Option.isNone p3) then
 none
 else Option.bind p3 fun q4=>
 (r2.2.ld q4.1 q4.2).bind fun w5=>
 (AV.aG w5).bind fun l6=>
 some ((.aS [(.i .i64 (l6.2:Int)),J 0]),r2.2))
 else none
def vL:Sm O:=z8 o6
theorem uK:aa Tryz.prog 323:=Tryz.call323
theorem HG (yR:Sm O):run (O:=O) Tryz.prog [(319,yR)] Tryz.f323 (.n .z (.n .z (.n (.n .z (.n .x .z)) .z)))=z8 yR:=by kernel_rfl
theorem qN:ae RO Tryz.prog 323 vL:=bt (HG _) (af kB iy <| aA) Tryz.func323 (by kernel_rfl)
def uL (Sk:Sm O):Sm O:=fun xs h=>
 bif Nat.beq xs.length 1 then
 (AV.aT (xs.getD 0 .u)).bind fun p0=>
 Option.bind p0 fun q1=>
 (h.ld q1.1 q1.2).bind fun w2=>
 (AV.aT w2).bind fun p3=>
 Option.bind p0 fun q4=>
 (h.ld q4.1 (q4.2+1)).bind fun w5=>
 (AV.ag .i64 w5).bind fun n6=>
 (Sk [(.p p3),J n6] h).bind fun r7=>
 (AV.aE 2 r7.1).bind fun c8=>
 I6 c8 0 fun n9=>I6 c8 1 fun cQ=>some (J n9,r7.2)
 else none
def qj:Sm O:=uL vL
theorem qO:aa Tryz.prog 289:=Tryz.call289
theorem D8 (Sk:Sm O):run (O:=O) Tryz.prog [(323,Sk)] Tryz.f289 (.n .z (.n (.d [] [0,1,2,3,4,5,6,7,8,9,10,11,12,13,14] [0,1,3,7,0,16,48,112,240,511,1023,2047,2047,4095,16383]) .z))=uL Sk:=by kernel_rfl
theorem nN:ae RO Tryz.prog 289 qj:=bt (D8 _) (af uK qN <| aA) Tryz.func289 (by kernel_rfl)
def Aa (yR Rz:Sm O):Sm O:=fun xs h=>
 bif Nat.beq xs.length 3 then
 (AV.aT (xs.getD 0 .u)).bind fun p0=>
 (AV.ag .i64 (xs.getD 1 .u)).bind fun n1=>
 (AV.ag .i64 (xs.getD 2 .u)).bind fun n2=>
 (yR [(.p p0),J n1] h).bind fun r3=>
 (AV.aT r3.1).bind fun p4=>
 (bif (Option.isNone p4) then
 none
 else Option.bind p4 fun q5=>
 (r3.2.ld q5.1 q5.2).bind fun w6=>
 (AV.aG w6).bind fun l7=>
 (bif (decide (n2<(l7.2:Int))) then
 none
 else (bif (decide (n2 > 4194304)) then
 none
 else Option.bind p0 fun q8=>
 (r3.2.ld q8.1 q8.2).bind fun w9=>
 (AV.aT w9).bind fun Vz=>
 Option.bind p4 fun Gm=>
 (r3.2.ld Gm.1 Gm.2).bind fun tw=>
 (AV.aG tw).bind fun P7=>
 (Rz [(.p Vz),(.i .i64 (IntKind.i64.wrap (n2 - (P7.2:Int))))] r3.2).bind fun r14=>
 (AV.ag .i64 r14.1).bind fun gd=>
 let zI:=r14.2.bump 1
 (bif ((((decide ((0:Int) ≤ n2)) && (decide (n2 ≤ n2))) && (decide ((n2*8) ≤ 140737488355328))) && (decide (n2 ≤ 140737488355328))) then
 let Ln:=zI.put r14.2.next (.cells true 63 ((List.replicate n2.toNat [(.i .u64 0)]).flatten))
 Option.bind p4 fun q18=>
 (Ln.ld q18.1 q18.2).bind fun I5=>
 (AV.aG I5).bind fun XR=>
 (bif Nat.beq (min XR.2 n2.toNat) 0 then
 Option.bind p4 fun wR=>
 (Ln.st wR.1 wR.2 [(.sl (.loc (.n r14.2.next) 0 1) n2.toNat)]).bind fun Vy=>
 some (J 0,Vy)
 else
 (Ln.bC XR.1 (min XR.2 n2.toNat) 1).bind fun ZI=>
 (Ln.VE (.loc (.n r14.2.next) 0 1) ZI).bind fun tW=>
 Option.bind p4 fun q26=>
 (tW.st q26.1 q26.2 [(.sl (.loc (.n r14.2.next) 0 1) n2.toNat)]).bind fun Rf=>
 some (J 0,Rf))
 else none))))
 else none
def vM:Sm O:=Aa o6 my
theorem uM:aa Tryz.prog 275:=Tryz.call275
theorem HH (yR Rz:Sm O):run (O:=O) Tryz.prog [(319,yR),(204,Rz)] Tryz.f275 (.n .z (.n .z (.n (.n (.n .z (.n .x (.n .z (.n .x (.n .z (.n .x .z)))))) .z) (.n (.d [] [0,1,2,3,4,5,6,7,8,9,10,11] [0,1,3,7,0,0,32,96,224,480,1008,2047]) (.n .z (.n .z (.n .z .z)))))))=Aa yR Rz:=by kernel_rfl
theorem qP:ae RO Tryz.prog 275 vM:=bt (HH _ _) (af kB iy <| af nw lx <| aA) Tryz.func275 (by kernel_rfl)
def qQ (Sl Sn:Sm O):Sm O:=fun xs h=>
 bif Nat.beq xs.length 2 then
 (AV.aT (xs.getD 0 .u)).bind fun p0=>
 (AV.ag .i64 (xs.getD 1 .u)).bind fun n1=>
 (bif (decide (n1<0)) then
 none
 else Option.bind p0 fun q2=>
 (h.ld q2.1 q2.2).bind fun w3=>
 (AV.aT w3).bind fun p4=>
 Option.bind p0 fun q5=>
 (h.ld q5.1 (q5.2+1)).bind fun w6=>
 (AV.ag .i64 w6).bind fun n7=>
 (Sl [(.p p0)] h).bind fun r8=>
 (AV.ag .i64 r8.1).bind fun n9=>
 (bc (r8.2.ld q2.1 q2.2) (some (.p p4))).bind fun _=>
 (bc (r8.2.ld q5.1 (q5.2+1)) (some (.i .i64 n7))).bind fun _=>
 (Sn [(.p p4),J n7,(.i .i64 (if n9 > n1 then n9 else n1))] r8.2).bind fun dw=>
 (AV.ag .i64 dw.1).bind fun dZ=>
 some (J dZ,dw.2))
 else none
def uN:Sm O:=qQ qj vM
theorem A5:aa Tryz.prog 240:=Tryz.call240
theorem A6 (Sl Sn:Sm O):run (O:=O) Tryz.prog [(289,Sl),(275,Sn)] Tryz.f240 (.n .z (.n (.n .z (.n .x .z)) (.n (.d [] [0,1,2,3,4,5,6,7,8,9,10,11,12,13,14] [0,1,3,7,0,16,48,112,240,0,0,1024,3584,8191,16383]) .z)))=qQ Sl Sn:=by kernel_rfl
theorem xF:ae RO Tryz.prog 240 uN:=bt (A6 _ _) (af qO nN <| af uM qP <| aA) Tryz.func240 (by kernel_rfl)
def kX (w:Words O) (So pz Sp:Sm O):Sm O:=fun xs h=>
 bif Nat.beq xs.length 4 then
 (AV.aT (xs.getD 0 .u)).bind fun p0=>
 (AV.ag .i64 (xs.getD 1 .u)).bind fun n1=>
 (AV.ag .i64 (xs.getD 2 .u)).bind fun n2=>
 (AV.aV (xs.getD 3 .u)).bind fun b3=>
 let h4:=h.bump 1
 Option.bind p0 fun q5=>
 (h4.ld q5.1 (q5.2+7)).bind fun w6=>
 (AV.ag .i64 w6).bind fun n7=>
 (h4.ld q5.1 ((q5.2+7)+1)).bind fun w8=>
 (AV.ag .i64 w8).bind fun n9=>
 (h4.ld q5.1 (((q5.2+7)+1)+1)).bind fun wP=>
 (AV.ag .i64 wP).bind fun dZ=>
 (h4.ld q5.1 ((((q5.2+7)+1)+1)+1)).bind fun tw=>
 (AV.ag .i64 tw).bind fun fg=>
 (h4.ld q5.1 (((((q5.2+7)+1)+1)+1)+1)).bind fun ou=>
 (AV.ag .i64 ou).bind fun gd=>
 (h4.ld q5.1 ((((((q5.2+7)+1)+1)+1)+1)+1)).bind fun vl=>
 (AV.ag .i64 vl).bind fun iO=>
 (h4.ld q5.1 (((((((q5.2+7)+1)+1)+1)+1)+1)+1)).bind fun Ce=>
 (AV.ag .i64 Ce).bind fun kN=>
 (h4.ld q5.1 ((((((((q5.2+7)+1)+1)+1)+1)+1)+1)+1)).bind fun DL=>
 (AV.ag .i64 DL).bind fun vr=>
 (So [(.agg (P1 n7 n9 dZ fg gd iO kN vr)),J n1,J n2] h4).bind fun tY=>
 (AV.aE 2 tY.1).bind fun Qa=>
 (AV.asAgg 8 (Qa.getD 0 .u)).bind fun WK=>
 w.U0 WK fun wj ji Ai jo Lm ot SH lJ=>
 (AV.aV (Qa.getD 1 .u)).bind fun b33=>
 let OC:=tY.2.put h.next (.cells true 168 P0)
 (OC.st (.n h.next) 0 (P1 wj ji Ai jo Lm ot SH lJ)).bind fun wO=>
 w.W0 wO (.n h.next) 0 fun OX Ot Ou KC Ov Rx Ry WO=>
 Option.bind p0 fun XX=>
 (wO.st XX.1 (XX.2+7) (P1 OX Ot Ou KC Ov Rx Ry WO)).bind fun h53=>
 Option.bind p0 fun q54=>
 (h53.ld q54.1 (q54.2+5)).bind fun Zz=>
 (AV.aT Zz).bind fun p56=>
 (h53.ld (.n h.next) 5).bind fun Zp=>
 (AV.ag .i64 Zp).bind fun Uk=>
 (pz [(.p p56)] h53).bind fun Ra=>
 (AV.aT Ra.1).bind fun p60=>
 (bc (Ra.2.ld (.n h.next) 5) (some (.i .i64 Uk))).bind fun _=>
 (Sp [(.p p60),J Uk] Ra.2).bind fun yA=>
 (AV.ag .i64 yA.1).bind fun n62=>
 ((bif (b3 == false) then
 some ([(.b (!b33))],yA.2)
 else some ([(.b true)],yA.2)):Option (List AV × AH O)).bind fun XO=>
 (AV.aV (XO.1.getD 0 .u)).bind fun b64=>
 (bif b64 then
 none
 else some ((.b b33),XO.2))
 else none
def sP (So pz Sp:Sm O):Sm O:=kX js So pz Sp
def jw:Sm O:=sP xE eY uN
theorem CN:aa Tryz.prog 192:=Tryz.call192
theorem CO (So pz Sp:Sm O):run (O:=O) Tryz.prog [(238,So),(239,pz),(240,Sp)] Tryz.f192 (.n .z (.n .z (.n .z (.n (.d [] [0,1,2,3,5,6,7,4,8] [0,1,3,7,15,0,32,96,255]) (.n (.n (.g [(1,2,[(38,.one .b)])]) (.n .x .z)) .z)))))=sP So pz Sp:=
 (show run (O:=O) Tryz.prog [(238,So),(239,pz),(240,Sp)] Tryz.f192 (.n .z (.n .z (.n .z (.n (.d [] [0,1,2,3,5,6,7,4,8] [0,1,3,7,15,0,32,96,255]) (.n (.n (.g [(1,2,[(38,.one .b)])]) (.n .x .z)) .z)))))=kX jr So pz Sp by kernel_rfl).trans (congrArg (fun w=>kX w So pz Sp) se)
theorem zk:ae RO Tryz.prog 192 jw:=bt (CO _ _ _) (af CL zj <| af eJ dG <| af A5 xF <| aA) Tryz.func192 (by kernel_rfl)
def HI:Sm O:=fun xs h=>
 bif Nat.beq xs.length 2 then
 (AV.ag .u64 (xs.getD 0 .u)).bind fun n0=>
 (AV.ag .u64 (xs.getD 1 .u)).bind fun n1=>
 let v2:Int:=(IntKind.u64.wrap ((bE .and .u64 n0 4294967295)*(bE .and .u64 n1 4294967295)))
 let v3:Int:=(IntKind.u64.wrap ((Int.fdiv n0 (2 ^ 32))*(bE .and .u64 n1 4294967295)))
 let v4:Int:=(bE .and .u64 (IntKind.u64.wrap (v3+(Int.fdiv v2 (2 ^ 32)))) 4294967295)
 let v5:Int:=(Int.fdiv (IntKind.u64.wrap (v3+(Int.fdiv v2 (2 ^ 32)))) (2 ^ 32))
 let v6:Int:=(IntKind.u64.wrap ((bE .and .u64 n0 4294967295)*(Int.fdiv n1 (2 ^ 32))))
 let v7:Int:=(IntKind.u64.wrap ((Int.fdiv n0 (2 ^ 32))*(Int.fdiv n1 (2 ^ 32))))
 let v8:Int:=(IntKind.u64.wrap ((IntKind.u64.wrap (v7+v5))+(Int.fdiv (IntKind.u64.wrap (v4+v6)) (2 ^ 32))))
 some ((.aS [(.i .u64 v8),(.i .u64 (IntKind.u64.wrap (n0*n1)))]),h)
 else none
def NG:Sm O:=HI
theorem NH:aa Tryz.prog 305:=Tryz.call305
theorem NI:run (O:=O) Tryz.prog [] Tryz.f305 (.n .z (.n .z (.n .z (.n .z (.n .z (.n .z (.n .z (.n .z (.n .z (.n .z (.n .z .z)))))))))))=HI:=by kernel_rfl
theorem Jp:ae RO Tryz.prog 305 NG:=bt NI (aA) Tryz.func305 (by kernel_rfl)
def NJ (acd OY:Sm O):Sm O:=fun xs h=>
 bif Nat.beq xs.length 2 then
 (AV.asAgg 2 (xs.getD 0 .u)).bind fun c0=>
 (AV.ag .u64 (c0.getD 0 .u)).bind fun n1=>
 (AV.ag .u64 (c0.getD 1 .u)).bind fun n2=>
 (AV.ag .u64 (xs.getD 1 .u)).bind fun n3=>
 let h4:=h.bump 2
 let h5:=h4.put h.next (.cells true 177 [(.i .u64 n1),(.i .u64 n2)])
 let h6:=h5.put (h.next+1) (.cells true 177 [(.i .u64 0),(.i .u64 0)])
 (h6.ld (.n h.next) 1).bind fun w7=>
 (AV.ag .u64 w7).bind fun n8=>
 (acd [(.i .u64 n8),(.i .u64 n3)] h6).bind fun r9=>
 (AV.aE 2 r9.1).bind fun Gl=>
 (AV.ag .u64 (Gl.getD 0 .u)).bind fun dZ=>
 (AV.ag .u64 (Gl.getD 1 .u)).bind fun dy=>
 (r9.2.ld (.n h.next) 0).bind fun tz=>
 (AV.ag .u64 tz).bind fun fW=>
 (acd [(.i .u64 fW),(.i .u64 n3)] r9.2).bind fun ij=>
 (AV.aE 2 ij.1).bind fun XV=>
 (AV.ag .u64 (XV.getD 0 .u)).bind fun iO=>
 (AV.ag .u64 (XV.getD 1 .u)).bind fun jX=>
 (OY [(.i .u64 jX),(.i .u64 dZ),(.i .u64 0)] ij.2).bind fun r19=>
 (AV.aE 2 r19.1).bind fun c20=>
 (AV.ag .u64 (c20.getD 0 .u)).bind fun vr=>
 (AV.ag .u64 (c20.getD 1 .u)).bind fun fC=>
 ((bif (((iO:Int) != 0) == false) then
 some ([(.b ((fC:Int) != 0))],r19.2)
 else some ([(.b true)],r19.2)):Option (List AV × AH O)).bind fun zG=>
 (AV.aV (zG.1.getD 0 .u)).bind fun b24=>
 (bif b24 then
 none
 else (zG.2.st (.n (h.next+1)) 0 [(.i .u64 vr),(.i .u64 dy)]).bind fun Vy=>
 (Vy.ld (.n (h.next+1)) 0).bind fun Ru=>
 (AV.ag .u64 Ru).bind fun Ai=>
 (Vy.ld (.n (h.next+1)) 1).bind fun Rv=>
 (AV.ag .u64 Rv).bind fun Lm=>
 some ((.aS [(.agg [(.i .u64 Ai),(.i .u64 Lm)]),(.b true)]),Vy))
 else none
def UC:Sm O:=NJ NG rL
theorem Sq:aa Tryz.prog 256:=Tryz.call256
theorem Sr (acd OY:Sm O):run (O:=O) Tryz.prog [(305,acd),(207,OY)] Tryz.f256 (.n .z (.n .z (.n .z (.n .z (.n (.n (.g [(2,2,[(36,.one .b)])]) (.n .x .z)) .z)))))=NJ acd OY:=by kernel_rfl
theorem NK:ae RO Tryz.prog 256 UC:=bt (Sr _ _) (af NH Jp <| aid Cg <| aA) Tryz.func256 (by kernel_rfl)
def Qk (RN afM:Sm O):Sm O:=fun xs h=>
 bif Nat.beq xs.length 2 then
 (AV.ag .i64 (xs.getD 0 .u)).bind fun n0=>
 (AV.ag .u64 (xs.getD 1 .u)).bind fun n1=>
 let h2:=h.bump 1
 let h3:=h2.put h.next (.cells true 177 [(.i .u64 0),(.i .u64 0)])
 let h4:=h3.bump 1
 (RN [(.i .u64 (IntKind.u64.wrap (if 0 > n0 then 0 else n0)))] h4).bind fun r5=>
 (AV.asAgg 2 r5.1).bind fun c6=>
 (AV.ag .u64 (c6.getD 0 .u)).bind fun n7=>
 (AV.ag .u64 (c6.getD 1 .u)).bind fun n8=>
 (afM [(.agg [(.i .u64 n7),(.i .u64 n8)]),(.i .u64 n1)] r5.2).bind fun r9=>
 (AV.aE 2 r9.1).bind fun Gl=>
 (AV.asAgg 2 (Gl.getD 0 .u)).bind fun WD=>
 (AV.ag .u64 (WD.getD 0 .u)).bind fun dy=>
 (AV.ag .u64 (WD.getD 1 .u)).bind fun fg=>
 (AV.aV (Gl.getD 1 .u)).bind fun b14=>
 let oY:=r9.2.put h3.next (.cells true 177 [(.i .u64 0),(.i .u64 0)])
 (oY.st (.n h3.next) 0 [(.i .u64 dy),(.i .u64 fg)]).bind fun zI=>
 (zI.ld (.n h3.next) 0).bind fun vk=>
 (AV.ag .u64 vk).bind fun jX=>
 (zI.ld (.n h3.next) 1).bind fun I5=>
 (AV.ag .u64 I5).bind fun nv=>
 (zI.st (.n h.next) 0 [(.i .u64 jX),(.i .u64 nv)]).bind fun Rt=>
 (Rt.ld (.n h.next) 0).bind fun IZ=>
 (AV.ag .u64 IZ).bind fun qo=>
 (Rt.ld (.n h.next) 1).bind fun OJ=>
 (AV.ag .u64 OJ).bind fun wj=>
 some ((.agg [(.i .u64 qo),(.i .u64 wj)]),Rt)
 else none
def XY:Sm O:=Qk RL UC
theorem UD:aa Tryz.prog 206:=Tryz.call206
theorem UE (RN afM:Sm O):run (O:=O) Tryz.prog [(257,RN),(256,afM)] Tryz.f206 (.n .z (.n .z .z))=Qk RN afM:=by kernel_rfl
theorem O4:ae RO Tryz.prog 206 XY:=bt (UE _ _) (af J7 EM <| af Sq NK <| aA) Tryz.func206 (by kernel_rfl)
def UF (l0:SA × Nat) (h2:AH O) (o7:Sm O):List AV × AH O → Option ((List AV × AH O) ⊕ (List AV × AH O)):=(fun r5=>
 (AV.ag .i64 (r5.1.getD 0 .u)).bind fun n6=>
 (bif (decide (n6<(l0.2:Int))) then
 let h7:=r5.2.bump 1
 (bif ((decide ((0:Int) ≤ n6)) && (decide (n6<(l0.2:Int)))) then
 (SA.ref l0.1).bind fun q8=>
 (h7.ld q8.1 (q8.2+(n6.toNat*2))).bind fun w9=>
 (AV.ag .u64 w9).bind fun cQ=>
 (h7.ld q8.1 ((q8.2+(n6.toNat*2))+1)).bind fun nm=>
 (AV.ag .u64 nm).bind fun dy=>
 let nk:=h7.put r5.2.next (.cells true 177 [(.i .u64 0),(.i .u64 0)])
 (nk.st (.n r5.2.next) 0 [(.i .u64 cQ),(.i .u64 dy)]).bind fun tu=>
 (tu.ld (.n h2.next) 0).bind fun tx=>
 (AV.ag .u64 tx).bind fun jN=>
 (tu.ld (.n h2.next) 1).bind fun vk=>
 (AV.ag .u64 vk).bind fun jX=>
 (tu.ld (.n r5.2.next) 0).bind fun I5=>
 (AV.ag .u64 I5).bind fun nv=>
 (tu.ld (.n r5.2.next) 1).bind fun yF=>
 (AV.ag .u64 yF).bind fun fC=>
 (o7 [(.agg [(.i .u64 jN),(.i .u64 jX)]),(.agg [(.i .u64 nv),(.i .u64 fC)])] tu).bind fun zG=>
 (AV.aE 2 zG.1).bind fun WK=>
 (AV.asAgg 2 (WK.getD 0 .u)).bind fun XQ=>
 (AV.ag .u64 (XQ.getD 0 .u)).bind fun ji=>
 (AV.ag .u64 (XQ.getD 1 .u)).bind fun Ai=>
 (AV.aV (WK.getD 1 .u)).bind fun b28=>
 (zG.2.st (.n h2.next) 0 [(.i .u64 ji),(.i .u64 Ai)]).bind fun Q9=>
 some (Sum.inl ([(.i .i64 (IntKind.i64.wrap (n6+1)))],Q9))
 else none)
 else some (Sum.inr ([],r5.2))))
def NL (o7:Sm O):Sm O:=fun xs h=>
 bif Nat.beq xs.length 1 then
 (AV.aG (xs.getD 0 .u)).bind fun l0=>
 let h1:=h.bump 1
 let h2:=h1.put h.next (.cells true 177 [(.i .u64 0),(.i .u64 0)])
 let h3:=h2.bump 1
 let h4:=h3.put h2.next (.cells true 177 [(.i .u64 0),(.i .u64 0)])
 (aQ (S:=List AV × AH O) (T:=List AV × AH O) (UF l0 h2 o7) ([J 0],h4)).bind fun DA=>
 (DA.2.ld (.n h2.next) 0).bind fun Cl=>
 (AV.ag .u64 Cl).bind fun lJ=>
 (DA.2.ld (.n h2.next) 1).bind fun FE=>
 (AV.ag .u64 FE).bind fun wg=>
 (DA.2.st (.n h.next) 0 [(.i .u64 lJ),(.i .u64 wg)]).bind fun wO=>
 (wO.ld (.n h.next) 0).bind fun Ui=>
 (AV.ag .u64 Ui).bind fun OX=>
 (wO.ld (.n h.next) 1).bind fun OG=>
 (AV.ag .u64 OG).bind fun Ot=>
 some ((.agg [(.i .u64 OX),(.i .u64 Ot)]),wO)
 else none
def UG:Sm O:=NL xa
theorem Ss:aa Tryz.prog 205:=Tryz.call205
theorem St (o7:Sm O):run (O:=O) Tryz.prog [(155,o7)] Tryz.f205 (.n .z (.n .z (.n (.n .z (.n (.lp false 0 [(8,.one (.i .i64))] [] (.n .z (.n .z (.n (.n .z .z) .z)))) .z)) .z)))=NL o7:=by kernel_rfl
theorem NM:ae RO Tryz.prog 205 UG:=bt (St _) (af mz iX <| aA) Tryz.func205 (by kernel_rfl)
end
end Go.Abs.Tryz
