/-
  What functions of Go's library do: by the contracts of the shelf. No conditions.
-/
import Derived.Test.YtlgnboohmahbaaaGreatDoorAbsExtern
import Derived.Test.YtlgnboohmahbaaaGreatDoorT1
import Derived.Shelf.Strings.Builder1
import Derived.Shelf.Strings.OnBuilder
import Derived.Shelf.Strings.BuilderK
import Derived.Shelf.Strings.Search1
import Derived.Shelf.Strings.Search3
import Derived.Shelf.Strings.Split
import Derived.Lib.IndexBytes
import Derived.Test.YtlgnboohmahbaaaGreatDoorProg
import Derived.KernelRfl
set_option linter.unusedVariables false
set_option linter.unusedSimpArgs false
set_option linter.constructorNameAsVariable false
set_option maxRecDepth 1000000
set_option linter.unusedVariables false
set_option linter.unusedSimpArgs false
namespace Go.Proofs
open Go.Shelf
def Tryz.JQ:Go.Shelf.Ren:=⟨fun |169=>21 |n=>n,fun |70=>52 |9=>9 |0=>0 |72=>54 |37=>29 |127=>103 |3=>3 |5=>5 |n=>n,fun |n=>n⟩
theorem Tryz.aeg:Go.Proofs.Lays.n169 Tryz.prog Tryz.JQ:={
 mixed:=by kernel_rfl
 f169:=Tryz.func21.trans (congrArg some (by kernel_rfl))
 t0:=Tryz.underlying0
 a0:=Tryz.isAgg0
 z0:=Tryz.sizeOf0
 v0:=Tryz.zeroValue0
 t3:=Tryz.underlying3
 a3:=Tryz.isAgg3
 z3:=Tryz.sizeOf3
 v3:=Tryz.zeroValue3
 t9:=Tryz.underlying9
 a9:=Tryz.isAgg9
 z9:=Tryz.sizeOf9
 v9:=Tryz.zeroValue9
 t37:=Tryz.underlying29
 a37:=Tryz.isAgg29
 z37:=Tryz.sizeOf29
 v37:=Tryz.zeroValue29
 t70:=Tryz.underlying52
 a70:=Tryz.isAgg52
 z70:=Tryz.sizeOf52
 v70:=Tryz.zeroValue52
 t72:=Tryz.underlying54
 a72:=Tryz.isAgg54
 z72:=Tryz.sizeOf54
 v72:=Tryz.zeroValue54
 t127:=Tryz.underlying103
 a127:=Tryz.isAgg103
 z127:=Tryz.sizeOf103
 v127:=Tryz.zeroValue103}
theorem Tryz.GO:Builder.Extra Tryz.prog Tryz.JQ:={
 sizeBuilder:=by kernel_rfl
 liesBuilder:=by kernel_rfl
 t5:=Tryz.underlying5
 a5:=Tryz.isAgg5
 z5:=Tryz.sizeOf5
 v5:=Tryz.zeroValue5
 infoByte:=by kernel_rfl
 cellsByte:=by kernel_rfl
 sizeByte:=by kernel_rfl
 neB5:=by decide}
def Tryz.JR:Go.Shelf.Ren:=⟨fun |156=>47 |165=>70 |166=>17 |169=>21 |240=>44 |241=>97 |276=>69 |277=>143 |n=>n,fun |31=>69 |9=>9 |3=>3 |4=>4 |0=>0 |20=>20 |72=>54 |76=>57 |70=>52 |37=>29 |75=>56 |127=>103 |164=>137 |5=>5 |80=>62 |n=>n,fun |n=>n⟩
theorem Tryz.Q7:Go.Proofs.Lays.n156 Tryz.prog Tryz.JR:={
 mixed:=by kernel_rfl
 f156:=Tryz.func47.trans (congrArg some (by kernel_rfl))
 f165:=Tryz.func70.trans (congrArg some (by kernel_rfl))
 f166:=Tryz.func17.trans (congrArg some (by kernel_rfl))
 f169:=Tryz.func21.trans (congrArg some (by kernel_rfl))
 f240:=Tryz.func44.trans (congrArg some (by kernel_rfl))
 f241:=Tryz.func97.trans (congrArg some (by kernel_rfl))
 f276:=Tryz.func69.trans (congrArg some (by kernel_rfl))
 f277:=Tryz.func143.trans (congrArg some (by kernel_rfl))
 t0:=Tryz.underlying0
 a0:=Tryz.isAgg0
 z0:=Tryz.sizeOf0
 v0:=Tryz.zeroValue0
 t3:=Tryz.underlying3
 a3:=Tryz.isAgg3
 z3:=Tryz.sizeOf3
 v3:=Tryz.zeroValue3
 t4:=Tryz.underlying4
 a4:=Tryz.isAgg4
 z4:=Tryz.sizeOf4
 v4:=Tryz.zeroValue4
 t9:=Tryz.underlying9
 a9:=Tryz.isAgg9
 z9:=Tryz.sizeOf9
 v9:=Tryz.zeroValue9
 t20:=Tryz.underlying20
 a20:=Tryz.isAgg20
 z20:=Tryz.sizeOf20
 v20:=Tryz.zeroValue20
 t31:=Tryz.underlying69
 a31:=Tryz.isAgg69
 z31:=Tryz.sizeOf69
 v31:=Tryz.zeroValue69
 t37:=Tryz.underlying29
 a37:=Tryz.isAgg29
 z37:=Tryz.sizeOf29
 v37:=Tryz.zeroValue29
 t70:=Tryz.underlying52
 a70:=Tryz.isAgg52
 z70:=Tryz.sizeOf52
 v70:=Tryz.zeroValue52
 t72:=Tryz.underlying54
 a72:=Tryz.isAgg54
 z72:=Tryz.sizeOf54
 v72:=Tryz.zeroValue54
 t75:=Tryz.underlying56
 a75:=Tryz.isAgg56
 z75:=Tryz.sizeOf56
 v75:=Tryz.zeroValue56
 t76:=Tryz.underlying57
 a76:=Tryz.isAgg57
 z76:=Tryz.sizeOf57
 v76:=Tryz.zeroValue57
 t127:=Tryz.underlying103
 a127:=Tryz.isAgg103
 z127:=Tryz.sizeOf103
 v127:=Tryz.zeroValue103
 t164:=Tryz.underlying137
 a164:=Tryz.isAgg137
 z164:=Tryz.sizeOf137
 v164:=Tryz.zeroValue137}
theorem Tryz.mg:Builder.Extra Tryz.prog Tryz.JR:={
 sizeBuilder:=by kernel_rfl
 liesBuilder:=by kernel_rfl
 t5:=Tryz.underlying5
 a5:=Tryz.isAgg5
 z5:=Tryz.sizeOf5
 v5:=Tryz.zeroValue5
 infoByte:=by kernel_rfl
 cellsByte:=by kernel_rfl
 sizeByte:=by kernel_rfl
 neB5:=by decide}
def Tryz.T4:Go.Shelf.Ren:=⟨fun |217=>145 |266=>202 |n=>n,fun |9=>9 |5=>5 |3=>3 |n=>n,fun |n=>n⟩
theorem Tryz.aeh:Go.Proofs.Lays.n217 Tryz.prog Tryz.T4:={
 mixed:=by kernel_rfl
 f217:=Tryz.func145.trans (congrArg some (by kernel_rfl))
 f266:=Tryz.func202.trans (congrArg some (by kernel_rfl))
 t3:=Tryz.underlying3
 a3:=Tryz.isAgg3
 z3:=Tryz.sizeOf3
 v3:=Tryz.zeroValue3
 t5:=Tryz.underlying5
 a5:=Tryz.isAgg5
 z5:=Tryz.sizeOf5
 v5:=Tryz.zeroValue5
 t9:=Tryz.underlying9
 a9:=Tryz.isAgg9
 z9:=Tryz.sizeOf9
 v9:=Tryz.zeroValue9}
def Tryz.T5:Go.Shelf.Ren:=⟨fun |146=>26 |221=>53 |268=>73 |138=>74 |143=>75 |195=>101 |197=>102 |218=>103 |219=>104 |260=>144 |217=>145 |225=>146 |224=>147 |267=>148 |266=>202 |314=>203 |n=>n,fun |9=>9 |31=>69 |3=>3 |4=>4 |0=>0 |105=>205 |21=>21 |5=>5 |46=>148 |119=>313 |139=>316 |138=>315 |146=>318 |51=>317 |n=>n,fun |1=>0 |3=>1 |4=>2 |n=>n⟩
theorem Tryz.aei:Go.Proofs.Lays.n146 Tryz.prog Tryz.T5:={
 mixed:=by kernel_rfl
 f138:=Tryz.func74.trans (congrArg some (by kernel_rfl))
 f143:=Tryz.func75.trans (congrArg some (by kernel_rfl))
 f146:=Tryz.func26.trans (congrArg some (by kernel_rfl))
 f195:=Tryz.func101.trans (congrArg some (by kernel_rfl))
 f197:=Tryz.func102.trans (congrArg some (by kernel_rfl))
 f217:=Tryz.func145.trans (congrArg some (by kernel_rfl))
 f218:=Tryz.func103.trans (congrArg some (by kernel_rfl))
 f219:=Tryz.func104.trans (congrArg some (by kernel_rfl))
 f221:=Tryz.func53.trans (congrArg some (by kernel_rfl))
 f224:=Tryz.func147.trans (congrArg some (by kernel_rfl))
 f225:=Tryz.func146.trans (congrArg some (by kernel_rfl))
 f260:=Tryz.func144.trans (congrArg some (by kernel_rfl))
 f266:=Tryz.func202.trans (congrArg some (by kernel_rfl))
 f267:=Tryz.func148.trans (congrArg some (by kernel_rfl))
 f268:=Tryz.func73.trans (congrArg some (by kernel_rfl))
 f314:=Tryz.func203.trans (congrArg some (by kernel_rfl))
 t0:=Tryz.underlying0
 a0:=Tryz.isAgg0
 z0:=Tryz.sizeOf0
 v0:=Tryz.zeroValue0
 t3:=Tryz.underlying3
 a3:=Tryz.isAgg3
 z3:=Tryz.sizeOf3
 v3:=Tryz.zeroValue3
 t4:=Tryz.underlying4
 a4:=Tryz.isAgg4
 z4:=Tryz.sizeOf4
 v4:=Tryz.zeroValue4
 t5:=Tryz.underlying5
 a5:=Tryz.isAgg5
 z5:=Tryz.sizeOf5
 v5:=Tryz.zeroValue5
 t9:=Tryz.underlying9
 a9:=Tryz.isAgg9
 z9:=Tryz.sizeOf9
 v9:=Tryz.zeroValue9
 t21:=Tryz.underlying21
 a21:=Tryz.isAgg21
 z21:=Tryz.sizeOf21
 v21:=Tryz.zeroValue21
 t31:=Tryz.underlying69
 a31:=Tryz.isAgg69
 z31:=Tryz.sizeOf69
 v31:=Tryz.zeroValue69
 t46:=Tryz.underlying148
 a46:=Tryz.isAgg148
 z46:=Tryz.sizeOf148
 v46:=Tryz.zeroValue148
 t51:=Tryz.underlying317
 a51:=Tryz.isAgg317
 z51:=Tryz.sizeOf317
 v51:=Tryz.zeroValue317
 t105:=Tryz.underlying205
 a105:=Tryz.isAgg205
 z105:=Tryz.sizeOf205
 v105:=Tryz.zeroValue205
 t119:=Tryz.underlying313
 a119:=Tryz.isAgg313
 z119:=Tryz.sizeOf313
 t138:=Tryz.underlying315
 a138:=Tryz.isAgg315
 z138:=Tryz.sizeOf315
 v138:=Tryz.zeroValue315
 t139:=Tryz.underlying316
 a139:=Tryz.isAgg316
 z139:=Tryz.sizeOf316
 v139:=Tryz.zeroValue316
 t146:=Tryz.underlying318
 a146:=Tryz.isAgg318
 z146:=Tryz.sizeOf318
 v146:=Tryz.zeroValue318
 g1:=by kernel_rfl
 g3:=by kernel_rfl
 g4:=by kernel_rfl}
section
open Go.RowKit Go.Lib
variable {P:Program} {ρ:Ren}
set_option maxHeartbeats 1000000 in
theorem Any.Wy (L:Lays.n146 P ρ) (hi9:(P.info? (ρ.t 9)).map (fun i=>(i.zero,i.size,i.bytes))=some (some (.string ByteArray.empty),1,16)) (s:ByteArray) (c:UInt8) (w:World) (hs:s.size<4294967281):
  Calls P (ρ.f 146) #[.string s,.string ⟨#[c]⟩] w fun e w'=>
   e=.returned (.slice (some ⟨w.heap.size,0,none⟩) (Lib.countB s ⟨#[c]⟩+1) (Lib.countB s ⟨#[c]⟩+1)) ∧ w'=w.alloc (.cells ((Lib.splitB ⟨#[c]⟩ 0 (Lib.countB s ⟨#[c]⟩) s).map Value.string).toArray (ρ.t 9)):=by
 have h1:1 ≤ (⟨#[c]⟩:ByteArray).size:=Nat.le_refl 1
 have hle:=Lib.countB_le ⟨#[c]⟩ h1 s.size s (Nat.le_refl _)
 have hlen:=Lib.splitB_all ⟨#[c]⟩ h1 0 _ s rfl
 have cI:∀ (x:ByteArray) (d:Array Value),x.size ≤ s.size → Calls P (ρ.f 143) #[.string x,.string ⟨#[c]⟩] (w.alloc (.cells d (ρ.t 9))) fun e w'=>e=.returned (.int .i64 (Lib.indexB x ⟨#[c]⟩)) ∧ w'=w.alloc (.cells d (ρ.t 9)):=fun x d _=>
  (Any.strings_Index_one {L with} x c _).mono fun e w' ⟨he,hw⟩=>⟨by rw [he,← Lib.index_one],hw⟩
 have cC:Calls P (ρ.f 138) #[.string s,.string ⟨#[c]⟩] w fun e w'=>e=.returned (.int .i64 (Lib.countB s ⟨#[c]⟩)) ∧ w'=w:=
  (Any.strings_Count_one {L with} s c w).mono fun e w' ⟨he,hw⟩=>⟨by rw [he];show _=Ending.returned (Value.int .i64 ((Lib.count s.data.toList [c]:Nat):Int));rw [Lib.count_one];rfl,hw⟩
 have cc:=Any.strings_genSplit_core {L with} hi9 s ⟨#[c]⟩ 0 (-1) (Lib.countB s ⟨#[c]⟩+1) w hs h1 (Nat.zero_le _) cI cC (by decide) (by decide) (by rw [if_pos (by decide)];omega)
 rw [Nat.add_sub_cancel,hlen] at cc
 have e2:Lib.cellsOf (Lib.splitB ⟨#[c]⟩ 0 (Lib.countB s ⟨#[c]⟩) s) (Lib.countB s ⟨#[c]⟩+1)=((Lib.splitB ⟨#[c]⟩ 0 (Lib.countB s ⟨#[c]⟩) s).map Value.string).toArray:=by rw [← hlen];exact Lib.cellsOf_full _
 rw [e2] at cc
 have t3:=L.t3;have t9:=L.t9;have t31:=L.t31
 have a3:=L.a3;have a9:=L.a9;have a31:=L.a31
 have z3:=L.z3;have v3:=L.v3;have z9:=L.z9;have v9:=L.v9;have z31:=L.z31;have v31:=L.v31
 have avV:∀ args w,(callFunc (ρ.f 221) args).run P w=.ok (.enter (ρ.f 221) args) w:=enters_of L.f221 (by kernel_rfl) rfl
 clear cI cC
 go_enter L.f146,Body.n146_ntmps ρ
 go_wp2_with (go_at_fn (ρ.f 221);refine cc.mono ?_;rintro e w' ⟨rfl,hw⟩;rw [hw])
 go_ret
 exact ⟨rfl,rfl⟩
theorem Wz {e:TypeId} (hc:P.cellsOf e=1) (count off n:Nat) (hn:off+n ≤ count):liesAt P P.depth e count off e n=true:=by
 have hd:P.depth=(2*(P.types.size+Made.depth)+1)+1:=rfl
 rw [hd]
 simp only [liesAt,Bool.or_eq_true]
 left
 rw [hd]
 simp [rowAt,hc,hn,sameLayout,Nat.mod_one]
theorem B8 (w:World) (pt it ty e:TypeId) (hp:P.underlying pt=some (.pointer e)) (hc:P.cellsOf e=1) (g off cells:Nat) (Vn:w.shape? g=some (e,cells)) (l:List UInt8) (h0:l≠[]) (hn:off+l.length ≤ cells) (QO:l.length ≤ 9223372036854775807)
  (JS:∀ j x,l[j]? = some x → w.cell? ((⟨g,off,none⟩:Addr).add j)=some (.int .u8 x.toNat)):
  (Builtin.unsafeString_ #[pt,it] ty #[.pointer (some ⟨g,off,none⟩),.int .i64 l.length]).run P w=.ok (.string ⟨l.toArray⟩) (w.freeze ⟨g,off,none⟩ l.length):=by
 have hl:l.length≠0:=by simpa using h0
 have hlb:=run_loadBytes (P:=P) w l ⟨g,off,none⟩ .empty JS
 have alQ:=Wz (P:=P) hc (cells / P.cellsOf e) off l.length (by rw [hc];simpa using hn)
 have QP:¬ (9223372036854775807:Int)<(l.length:Int):=by omega
 have aqq:Builtin.unsafeString_ #[pt,it] ty #[.pointer (some ⟨g,off,none⟩),.int .i64 l.length]=
   (
    do
    let n ← asInt (.int .i64 l.length)
    if n<0 then runtimePanic (.error "unsafe.String: len out of range")
    if n > IntKind.i64.max then unsupported (.unsafePointer "String: a length above the largest int")
    if n=0 then pure (.string .empty)
    else if ← variablesAt ⟨g,off,none⟩ (← elemOf pt) n.toNat then do
     let s ← loadBytes ⟨g,off,none⟩ .empty n.toNat
     freeze ⟨g,off,none⟩ n.toNat
     pure (.string s)
    else unsupported (.unsafePointer "String: not so many bytes at ptr")):=rfl
 rw [aqq]
 have aqr:IntKind.i64.max=9223372036854775807:=rfl
 have Zd:¬ (l.length:Int)<0:=by omega
 simp [asInt,asIntOf,aqr,QP,Zd,hl,variablesAt,Vn,elemOf,run_underlying hp,alQ,hlb]
set_option maxHeartbeats 2000000 in
theorem Any.Q8 (L:Lays.n169 P ρ) (X:Builder.Extra P ρ) (b g off cap:Nat) (p:Value) (l:List UInt8) (w:World) (cur:Array Value) (fz:Nat × Nat) (h0:l≠[]) (YD:w.heap[b]? = some (.cells #[p,.slice (some ⟨g,off,none⟩) l.length cap] (ρ.t 72) (0,0))) (hg:w.heap[g]? = some (.cells cur (ρ.t 5) fz)) (hn:l.length ≤ cap) (hcm:cap ≤ maxLen) (Gj:off+l.length ≤ cur.size) (JS:∀ j x,l[j]? = some x → w.cell? ⟨g,off+j,none⟩=some (.int .u8 x.toNat)):
  Calls P (ρ.f 169) #[.pointer (some ⟨b,0,none⟩)] w fun e w'=>e=.returned (.string ⟨l.toArray⟩) ∧ w'=w.drew.freeze ⟨g,off,none⟩ l.length:=by
 have hl0:l.length≠0:=by simpa using h0
 have c1:w.drew.cell? ⟨b,1,none⟩=some (.slice (some ⟨g,off,none⟩) l.length cap):=by
  have:w.drew.heap[b]? = some (.cells #[p,.slice (some ⟨g,off,none⟩) l.length cap] (ρ.t 72) (0,0)):=YD
  rw [Lib.cell_of_heap this];rfl
 have hSD:(Builtin.unsafeSliceData_ #[(ρ.t 37)] (ρ.t 127) #[.slice (some ⟨g,off,none⟩) l.length cap]).run P w.drew=.ok (.pointer (some ⟨g,off,none⟩)) w.drew:=
  Lib.run_unsafeSliceData_row _ _ _ _ _ _ (by omega)
 have hUS:(Builtin.unsafeString_ #[(ρ.t 127),(ρ.t 3)] (ρ.t 9) #[.pointer (some ⟨g,off,none⟩),.int .i64 l.length]).run P w.drew=.ok (.string ⟨l.toArray⟩) (w.drew.freeze ⟨g,off,none⟩ l.length):=by
  refine B8 w.drew (ρ.t 127) (ρ.t 3) (ρ.t 9) (ρ.t 5) L.t127 X.cellsByte g off cur.size (by have hg':w.drew.heap[g]? = some (.cells cur (ρ.t 5) fz):=hg;simp [World.shape?,hg']) l h0 (by omega) (by unfold maxLen at hcm;omega) ?_
  intro j x hx
  rw [Addr.add_lit]
  exact JS j x hx
 have mixed:=L.mixed
 have t72:=L.t72;have a72:=L.a72;have z72:=L.z72;have v72:=L.v72;have u72:=run_underlying L.t72
 have t70:=L.t70;have a70:=L.a70;have z70:=L.z70;have v70:=L.v70;have u70:=run_underlying L.t70
 have t37:=L.t37;have a37:=L.a37;have z37:=L.z37;have v37:=L.v37;have u37:=run_underlying L.t37
 have t127:=L.t127;have a127:=L.a127;have z127:=L.z127;have v127:=L.v127;have avX:=run_underlying L.t127
 have t3:=L.t3;have a3:=L.a3;have z3:=L.z3;have v3:=L.v3;have u3:=run_underlying L.t3
 have t9:=L.t9;have a9:=L.a9;have z9:=L.z9;have v9:=L.v9;have u9:=run_underlying L.t9
 have t5:=X.t5;have a5:=X.a5;have z5:=X.z5;have v5:=X.v5;have u5:=run_underlying X.t5
 go_enter L.f169,Body.n169_ntmps ρ
 go_wp2
 go_region_o
 all_goals (go_wp2;go_ret;exact ⟨rfl,rfl⟩)
end
theorem Tryz.Wy (s:ByteArray) (c:UInt8) (w:World) (hs:s.size<4294967281):
  Calls Tryz.prog 26 #[.string s,.string ⟨#[c]⟩] w fun e w'=>
   e=.returned (.slice (some ⟨w.heap.size,0,none⟩) (Lib.countB s ⟨#[c]⟩+1) (Lib.countB s ⟨#[c]⟩+1)) ∧ w'=w.alloc (.cells ((Lib.splitB ⟨#[c]⟩ 0 (Lib.countB s ⟨#[c]⟩) s).map Value.string).toArray 9):=Any.Wy Tryz.aei (by kernel_rfl) s c w hs
theorem Tryz.Q8 (b g off cap:Nat) (p:Value) (l:List UInt8) (w:World) (cur:Array Value) (fz:Nat × Nat) (h0:l≠[]) (YD:w.heap[b]? = some (.cells #[p,.slice (some ⟨g,off,none⟩) l.length cap] 54 (0,0))) (hg:w.heap[g]? = some (.cells cur 5 fz)) (hn:l.length ≤ cap) (hcm:cap ≤ maxLen) (Gj:off+l.length ≤ cur.size) (JS:∀ j x,l[j]? = some x → w.cell? ⟨g,off+j,none⟩=some (.int .u8 x.toNat)):
  Calls Tryz.prog 21 #[.pointer (some ⟨b,0,none⟩)] w fun e w'=>e=.returned (.string ⟨l.toArray⟩) ∧ w'=w.drew.freeze ⟨g,off,none⟩ l.length:=Any.Q8 Tryz.aeg Tryz.GO b g off cap p l w cur fz h0 YD hg hn hcm Gj JS
theorem Tryz.alR (b:Nat) (w:World) (h0:w.cell? ⟨b,0,none⟩=some (.pointer (some ⟨b,0,none⟩))):
  Calls Tryz.prog 44 #[.pointer (some ⟨b,0,none⟩)] w fun e w'=>e=.returned (.tuple #[]) ∧ w'=w:=Any.Builder_copyCheck_used (L:={Tryz.Q7 with}) Tryz.mg.toX72 b w h0
theorem Tryz.aiD (b:Nat) (w:World) (h0:w.cell? ⟨b,0,none⟩=some (.pointer none)) (Vn:w.shape? b=some (54,2)) (hfz:w.frozen? ⟨b,0,none⟩=false):
  Calls Tryz.prog 44 #[.pointer (some ⟨b,0,none⟩)] w fun e w'=>e=.returned (.tuple #[]) ∧ w'=w.setCell ⟨b,0,none⟩ (.pointer (some ⟨b,0,none⟩)):=Any.Builder_copyCheck_fresh (L:={Tryz.Q7 with}) Tryz.mg.toX72 b w h0 Vn hfz
theorem Tryz.join (bk o c:Nat) (xs:List ByteArray) (sep:ByteArray) (w:World) (aiE:∀ (j:Nat) x,xs[j]? = some x → w.cell? ⟨bk,o+j,none⟩=some (.string x)) (YD:bk<w.heap.size) (hN:xs.length ≤ 140737488355328) (adx:xs.length ≤ c) (hlen:(Lib.join (xs.map (·.data.toList)) sep.data.toList).length ≤ 140737488355328):
  Calls Tryz.prog 47 #[.slice (some ⟨bk,o,none⟩) xs.length c,.string sep] w fun e w'=>e=.returned (.string ⟨(Lib.join (xs.map (·.data.toList)) sep.data.toList).toArray⟩) ∧ RowKit.Below w.heap.size w w':=Any.strings_Join Tryz.Q7 Tryz.mg bk o c xs sep w aiE YD hN adx hlen
theorem Tryz.aej (s:ByteArray) (c:Int) (w:World):Calls Tryz.prog 145 #[.string s,.int .u8 c] w fun e w'=>e=.returned (.int .i64 (Lib.indexByte s.data.toList c.toNat.toUInt8)) ∧ w'=w:=Any.stringslite_IndexByte Tryz.aeh s c w
end Go.Proofs
namespace Go.Abs
open Go
section
variable {O:Type} {RO:O → Loc → (Nat → Option Obj) → Prop} {P:Program} {ρ:cl} {fp:Fp} {σ:AH O} {w:World}
theorem aO.abB {S:Nat → Prop} (h:Rel RO P ρ fp σ w) (b:Nat) {B0:Nat} (hk:fp b B0≠none) {w':World} (hs:w'.heap.size=w.heap.size) (hw:∀ B,B≠B0 → w'.heap[B]? = w.heap[B]?) (k1:w'.os=w.os) (k2:w'.tape=w.tape) (k3:w'.output=w.output):∃ fp',aO RO P S ρ fp σ w ρ fp' (σ.kill b) w':=by
 let fp':Fp:=fun q=>if q=b then (fun _=>none) else fp q
 have key:∀ q B,fp' q B≠none → fp q B≠none ∧ B≠B0:=by
  intro q B hq
  by_cases eL:q=b
  ·simp [fp',eL] at hq
  ·have LF:fp q B≠none:=by simpa only [fp',eL,if_false] using hq
   refine ⟨LF,fun e=>?_⟩
   subst e
   exact eL (h.nT q b B LF hk)
 have nf:∀ B,(∀ c,fp c B=none) → B≠B0:=fun B hB e=>hk (e▸hB b)
 refine ⟨fp',⟨⟨?_,?_,?_,?_,?_,?_⟩,⟨k1,k2,k3,Nat.le_of_eq hs.symm,fun B _ hB=>hw B (nf B hB)⟩,fun q B _ hq=>⟨q,(key q B hq).1⟩,fun _ o u hu _=>.inr ⟨o,u,hu⟩,cl.le_refl _,fun _ _=>rfl,fun q _ _ h0=>by simp [h0],Nat.le_refl _⟩⟩
 ·intro q hq
  obtain ⟨x,y⟩:=h.next q hq
  exact ⟨x,by simp [y]⟩
 ·intro q x L hx hL
  simp at hx
  obtain ⟨eL,hx⟩:=hx
  simp only [fp',eL,if_false]
  exact (h.ai q x L hx hL).mono (cl.le_refl _)
 ·intro q hq
  by_cases eL:q=b
  ·simp [fp',eL]
  ·simp only [fp',eL,if_false]
   simp [eL] at hq
   exact h.dead q hq
 ·intro q B o hq
  have jL:=(key q B (by simp [hq])).2
  by_cases eL:q=b
  ·simp [fp',eL] at hq
  ·simp only [fp',eL,if_false] at hq
   rw [hw B jL]
   exact h.has q B o hq
 ·exact fun q c B hq hc=>h.nT q c B (key q B hq).1 (key c B hc).1
 ·intro B o u hu
  obtain ⟨g1,g2⟩:=h.fz B o u hu
  refine ⟨by rw [World.cell?_of_block (w:=w) (w':=w') (hw B (nf B g2))];exact g1,fun c=>?_⟩
  by_cases hc:c=b
  ·simp [fp',hc]
  ·simp only [fp',hc,if_false];exact g2 c
end
def Fy:List AV → Option (List Bs)
 |[]=>some []
 |.s l::r=>(Fy r).map (l :: ·)
 |_=>none
theorem MD {ρ:cl}:∀ {cs:List AV} {us:List Value} {ws:List Bs},Fy cs=some ws → aL ρ cs us → ∃ xs:List ByteArray,us=xs.map Value.string ∧ ws=xs.map (·.data.toList)
 |[],us,ws,h,hr=>by
  cases hr
  simp only [Fy,Option.some.injEq] at h
  subst h
  exact ⟨[],rfl,rfl⟩
 |c::cs,us,ws,h,hr=>by
  cases hr with
  |cons _ u _ us h1 h2=>
   unfold Fy at h
   split at h
   ·rename_i e;cases e
   ·rename_i l r e
    cases e
    obtain ⟨ws',e1,rfl⟩:=Option.map_eq_some_iff.1 h
    obtain ⟨xs,rfl,rfl⟩:=MD e1 h2
    obtain ⟨s,e2,e3⟩:=h1.wA
    subst e2
    exact ⟨s::xs,rfl,by rw [List.map_cons,e3]⟩
   ·cases h
theorem ME:∀ ws:List Bs,Fy (ws.map AV.s)=some ws
 |[]=>rfl
 |w::ws=>by simp [Fy,ME ws]
def T6:List AV → Option Bs
 |[]=>some []
 |.i .u8 n::r=>bif decide (0 ≤ n) && decide (n<256) then (T6 r).map (UInt8.ofNat n.toNat :: ·) else none
 |_=>none
theorem T7 {ρ:cl}:∀ {cs:List AV} {us:List Value} {l:Bs},T6 cs=some l → aL ρ cs us → us=l.map fun c=>Value.int .u8 c.toNat
 |[],us,l,h,hr=>by
  cases hr
  simp only [T6,Option.some.injEq] at h
  subst h;rfl
 |c::cs,us,l,h,hr=>by
  cases hr with
  |cons _ u _ us h1 h2=>
   unfold T6 at h
   split at h
   ·rename_i e;cases e
   ·rename_i n r e
    cases e
    obtain ⟨hc,h⟩:=aD h
    simp only [Bool.and_eq_true,decide_eq_true_eq] at hc
    obtain ⟨l',e1,rfl⟩:=Option.map_eq_some_iff.1 h
    rw [T7 e1 h2,h1.eK,List.map_cons,u8n (by omega)]
    congr 2;omega
   ·cases h
theorem T8:∀ l:Bs,T6 (l.map fun c=>AV.i .u8 (c.toNat:Int))=some l
 |[]=>rfl
 |c::l=>by
  have h:=c.toNat_lt
  have e:(decide ((0:Int) ≤ (c.toNat:Int)) && decide ((c.toNat:Int)<256))=true:=by simp;omega
  simp only [List.map_cons,T6,e,cond_true,T8 l,Option.map_some]
  simp
theorem alS {ρ:cl} {x:AV} {args:Array Value} (h:aL ρ [x] args.toList):∃ u,args = #[u] ∧ aI ρ x u:=by
 obtain ⟨l⟩:=args
 cases h with
 |cons _ u _ us h1 h2=>cases h2;exact ⟨u,rfl,h1⟩
theorem aiF {ρ:cl} {x y:AV} {args:Array Value} (h:aL ρ [x,y] args.toList):∃ u v,args = #[u,v] ∧ aI ρ x u ∧ aI ρ y v:=by
 obtain ⟨l⟩:=args
 cases h with
 |cons _ u _ us h1 h2=>
  cases h2 with
  |cons _ v _ vs h3 h4=>cases h4;exact ⟨u,v,rfl,h1,h3⟩
end Go.Abs
namespace Go.Abs.Tryz
open Go Go.Abs Go.Proofs
noncomputable def stringslite_IndexByte {O:Type}:Sm O:=fun xs σ=>match xs with
 |[.s s,.i .u8 c]=>some (.i .i64 (Lib.indexByte s c.toNat.toUInt8),σ)
 |_=>none
theorem tt:aa Tryz.prog 145:=Tryz.call145
theorem rm {O:Type} {RO:O → Loc → (Nat → Option Obj) → Prop}:ae RO Tryz.prog 145 (stringslite_IndexByte (O:=O)):=by
 intro xs σ v aj hs ρ fp w args hx hr
 unfold stringslite_IndexByte at hs
 split at hs
 ·rename_i s c
  simp only [Option.some.injEq,Prod.mk.injEq] at hs
  obtain ⟨rfl,rfl⟩:=hs
  obtain ⟨u1,u2,rfl,h1,h2⟩:=aiF hx
  obtain ⟨b,rfl,rfl⟩:=h1.wA
  have:=h2.eK
  subst this
  refine (Tryz.aej b c w).mono ?_
  rintro e w' ⟨rfl,rfl⟩
  exact ⟨ρ,fp,_,rfl,.i _ _,aO.refl hr⟩
 ·cases hs
def strings_Split {O:Type}:Sm O:=fun xs σ=>match xs with
 |[.s s,.s [c]]=>bif Nat.ble s.length 1000000 then some (.sl (.loc (.f ((dK c s).map AV.s)) 0 1) (dK c s).length,σ) else none
 |_=>none
theorem tU:aa Tryz.prog 26:=Tryz.call26
theorem yz (c:UInt8):∀ s:Bs,(dK c s).length ≤ s.length+1
 |[]=>Nat.le_refl _
 |x::s=>by
  have:=yz c s
  unfold dK
  split
  ·simp;omega
  ·split
   ·simp
   ·rename_i h;rw [h] at this;simp at this ⊢;omega
theorem qn {O:Type} {RO:O → Loc → (Nat → Option Obj) → Prop}:ae RO Tryz.prog 26 (strings_Split (O:=O)):=by
 intro xs σ v aj hs ρ fp w args hx hr
 unfold strings_Split at hs
 split at hs
 ·rename_i s c
  obtain ⟨hc,hs⟩:=aD hs
  have hc:=Nat.le_of_ble_eq_true hc
  simp only [Option.some.injEq,Prod.mk.injEq] at hs
  obtain ⟨rfl,rfl⟩:=hs
  obtain ⟨u1,u2,rfl,h1,h2⟩:=aiF hx
  obtain ⟨b,rfl,rfl⟩:=h1.wA
  obtain ⟨b2,rfl,Dm⟩:=h2.wA
  have e2:b2=⟨#[c]⟩:=by
   apply ByteArray.ext
   apply Array.toList_inj.1
   rw [← Dm]
  subst e2
  have qX:b.data.toList.length=b.size:=by simp
  rw [qX] at hc
  refine (Tryz.Wy b c w (by omega)).mono ?_
  rintro e w' ⟨rfl,rfl⟩
  have Dk:(Lib.splitB ⟨#[c]⟩ 0 (Lib.countB b ⟨#[c]⟩) b).map (·.data.toList)=dK c b.data.toList:=by
   rw [Lib.splitB_data]
   exact P6 c b.data.toList
  have hl:=Lib.splitB_all ⟨#[c]⟩ (Nat.le_refl 1) 0 _ b rfl
  generalize Lib.splitB ⟨#[c]⟩ 0 (Lib.countB b ⟨#[c]⟩) b=ps at*
  rw [← hl]
  have Jy:=yz c b.data.toList
  rw [← Dk,List.length_map] at Jy ⊢
  obtain ⟨aR,q1,q2⟩:=aO.agW (S:=(· < σ.next)) hr (w':=w.alloc (.cells (ps.map Value.string).toArray 9)) (fun B hB=>heap_alloc_old w _ hB) (by simp) rfl rfl rfl (ps.map Value.string) (fun i u hu=>by
   simp [World.cell?,World.alloc,-World.alloc_eq] at hu ⊢
   exact hu)
  refine ⟨aR,fp,_,rfl,?_,q2⟩
  have rel:∀ l:List ByteArray,aL aR ((l.map (·.data.toList)).map AV.s) (l.map Value.string):=fun l=>by
   induction l with
   |nil=>exact .nil
   |cons x l ih=>exact .cons _ _ _ _ (.s x) ih
  have:=aI.sl (.f ((ps.map (·.data.toList)).map AV.s)) 0 ps.length ps.length ⟨w.heap.size,0,ps.length,1⟩ (.f _ _ _ (rel ps) (List.all_eq_true.2 fun v hv=>by obtain ⟨c,_,rfl⟩:=List.mem_map.1 hv;rfl) (fun i u hu=>by rw [Nat.zero_add];exact q1 i u hu)) (Nat.le_refl _) (by unfold maxLen;omega) (by simp)
  exact this
 ·cases hs
def strings_Join {O:Type}:Sm O:=fun xs σ=>match xs with
 |[.sl a n,.s [c]]=>bif Nat.beq n 0 then none else (σ.bC a n 1).bind fun cs=>(Fy cs).bind fun ws=>bif Nat.ble (bL c ws).length 1000000 && Nat.ble n 1000000 then some (.s (bL c ws),σ) else none
 |_=>none
theorem IE:aa Tryz.prog 47:=Tryz.call47
theorem Fz {O:Type} {RO:O → Loc → (Nat → Option Obj) → Prop}:ae RO Tryz.prog 47 (strings_Join (O:=O)):=by
 intro xs σ v aj hs ρ fp w args hx hr
 unfold strings_Join at hs
 split at hs
 ·rename_i a n c
  cases hz:Nat.beq n 0 with
  |true=>rw [hz] at hs;cases hs
  |false=>
  have Ve:n≠0:=fun e=>by rw [e] at hz;cases hz
  rw [hz,cond_false] at hs
  obtain ⟨cs,Gj,hs⟩:=Option.bind_eq_some_iff.1 hs
  obtain ⟨ws,Zm,hs⟩:=Option.bind_eq_some_iff.1 hs
  obtain ⟨hc,hs⟩:=aD hs
  simp only [Bool.and_eq_true] at hc
  have c1:=Nat.le_of_ble_eq_true hc.1
  have c2:=Nat.le_of_ble_eq_true hc.2
  simp only [Option.some.injEq,Prod.mk.injEq] at hs
  obtain ⟨rfl,rfl⟩:=hs
  obtain ⟨u1,u2,rfl,h1,h2⟩:=aiF hx
  obtain ⟨b2,rfl,Dm⟩:=h2.wA
  have fin:∀ (B off cap:Nat) (us:List Value),u1=.slice (some ⟨B,off,none⟩) n cap → aL ρ cs us → us.length=n*1 → n ≤ cap → (∀ j u,us[j]? = some u → w.cell? ⟨B,off+j,none⟩=some u) → Calls Tryz.prog 47 #[u1,.string b2] w fun x w'=>∃ aR fp' u,x=.returned u ∧ aI aR (.s (bL c ws)) u ∧ aO RO Tryz.prog (· < σ.next) ρ fp σ w aR fp' σ w':=by
   intro B off cap us e1 hus hl adx JS
   obtain ⟨xs,rfl,rfl⟩:=MD Zm hus
   simp only [List.length_map,Nat.mul_one] at hl
   have hj:Lib.join (xs.map (·.data.toList)) b2.data.toList=bL c (xs.map (·.data.toList)):=by rw [Dm];exact XL c _
   obtain ⟨x0,hx0⟩:∃ x,xs[0]? = some x:=⟨_,List.getElem?_eq_getElem (by omega)⟩
   have hb0:=wC (JS 0 (.string x0) (by rw [List.getElem?_map,hx0];rfl))
   rw [e1,← hl]
   refine (Tryz.join B off cap xs b2 w (fun j x hxj=>JS j _ (by rw [List.getElem?_map,hxj];rfl)) hb0 (by omega) (by omega) (by rw [hj];omega)).mono ?_
   rintro e w' ⟨rfl,hb⟩
   refine ⟨ρ,fp,_,rfl,?_,aO.more hr (fun B hB=>hb.block B hB) hb.size hb.os hb.tape hb.output⟩
   rw [hj]
   have:=aI.s (ρ:=ρ) ⟨(bL c (xs.map (·.data.toList))).toArray⟩
   simpa using this
  unfold AH.bC at Gj
  generalize GC:u1=uu at h1
  cases h1 with
  |SN=>exact absurd rfl Ve
  |Og=>exact absurd rfl Ve
  |QK=>exact absurd rfl Ve
  |sl b o _ cap L hL q1 q2 q3=>
   obtain ⟨us,k1,k2,k3,k4⟩:=eN hr hL Gj
   rw [← GC]
   exact fin L.B (L.O+o) cap us GC k1 k3 q1 (fun j u hj=>by rw [Nat.add_assoc];exact k4 j u hj)
  |YB b o _ _ cap L hL q0 q1 q2=>
   obtain ⟨us,k1,k2,k3,k4⟩:=eN hr hL Gj
   rw [← GC]
   exact fin L.B (L.O+o) cap us GC k1 k3 q1 (fun j u hj=>by rw [Nat.add_assoc];exact k4 j u hj)
 ·cases hs
theorem ahp:Ep Tryz.prog 54=true:=by kernel_rfl
noncomputable def __strings_Builder__copyCheck {O:Type}:Sm O:=fun xs σ=>match xs with
 |[.p (some (.n b,0))]=>match σ.ai b with
  |some (.cells true el [.p q,v])=>bif Nat.beq el 54 then (match q with
   |none=>some (.aS [],σ.put b (.cells true el [.p (some (.n b,0)),v]))
   |some (.n b',0)=>bif Nat.beq b' b then some (.aS [],σ) else none
   |_=>none) else none
  |_=>none
 |_=>none
theorem __strings_Builder__copyCheck_ent:aa Tryz.prog 44:=Tryz.call44
theorem __strings_Builder__copyCheck_sound {O:Type} {RO:O → Loc → (Nat → Option Obj) → Prop}:ae RO Tryz.prog 44 (__strings_Builder__copyCheck (O:=O)):=by
 intro xs σ v aj hs ρ fp w args hx hr
 unfold __strings_Builder__copyCheck at hs
 split at hs
 ·rename_i b
  split at hs
  ·rename_i el q vv hb
   obtain ⟨Eo,hs1⟩:=aD hs
   clear hs
   have Eo:=Nat.eq_of_beq_eq_true Eo
   subst Eo
   obtain ⟨u1,rfl,h1⟩:=alS hx
   obtain ⟨L,hL,rfl⟩:=h1.Eu
   have hL:=hL.tQ
   obtain ⟨arr,p1,p2,p3,p4,p5,p6⟩:=hr.own hb hL
   obtain ⟨e1,e2⟩:=hr.alone hb hL ahp p2
   obtain ⟨_,u0,g1,g2⟩:=p6 0 (.p q) rfl
   rw [e1] at g1
   have c0:w.cell? ⟨L.B,0,none⟩=some u0:=by simp only [World.cell?,p2];simpa using g1
   rw [e1]
   split at hs1
   ·simp only [Option.some.injEq,Prod.mk.injEq] at hs1
    obtain ⟨rfl,rfl⟩:=hs1
    cases g2
    have fz:w.frozen? ⟨L.B,0,none⟩=false:=by simp [World.frozen?,p2]
    refine (Tryz.aiD L.B w c0 (by simp only [World.shape?,p2,e2];rfl) fz).mono ?_
    rintro e w' ⟨rfl,rfl⟩
    have lP:σ.st (.n b) 0 [.p (some (.n b,0))]=some (σ.put b (.cells true 54 [.p (some (.n b,0)),vv])):=by simp [AH.st,hb];rfl
    have hv:aL ρ [.p (some (.n b,0))] [.pointer (some ⟨L.B,0,none⟩)]:=.cons _ _ _ _ (by have:=aI.p (ρ:=ρ) (.n b) 0 L (.n b L hL);rw [e1] at this;exact this) .nil
    obtain ⟨fp',w',fy,hp⟩:=oQ (S:=(· < σ.next)) hr (.n b L hL) lP hv rfl
    rw [e1] at fy
    have alT:=run_storeCells_cells (P:=Tryz.prog) L.B 0 [.pointer (some ⟨L.B,0,none⟩)] 0 w (fun j hj=>by
     have:j=0:=by simpa using hj
     subst this
     simp [c0]) (fun j hj=>by
     have:j=0:=by simpa using hj
     subst this
     simp [World.frozen?,p2]) (fun v hv=>by simp at hv;subst hv;rfl)
    rw [alT] at fy
    cases fy
    exact ⟨ρ,fp',_,rfl,.aS [] [] .nil,hp⟩
   ·rename_i b'
    obtain ⟨hbb,hs2⟩:=aD hs1
    clear hs1
    have hbb:=Nat.eq_of_beq_eq_true hbb
    subst hbb
    simp only [Option.some.injEq,Prod.mk.injEq] at hs2
    obtain ⟨rfl,rfl⟩:=hs2
    obtain ⟨L2,S5,rfl⟩:=g2.Eu
    have:=S5.tQ
    rw [hL] at this
    cases this
    rw [e1] at c0
    refine (Tryz.alR L.B w c0).mono ?_
    rintro e w' ⟨rfl,rfl⟩
    exact ⟨ρ,fp,_,rfl,.aS [] [] .nil,aO.refl hr⟩
   ·cases hs1
  ·cases hs
 ·cases hs
noncomputable def __strings_Builder__String {O:Type}:Sm O:=fun xs σ=>match xs with
 |[.p (some (.n b,0))]=>match σ.ai b with
  |some (.cells true el [p,.sl (.loc (.n k) o e) n])=>bif Nat.beq el 54 && !Nat.beq n 0 && !Nat.beq k b then (match σ.ai k with
   |some (.cells true el2 cs)=>bif Nat.beq el2 5 && Nat.ble (o+n) cs.length then (T6 ((cs.drop o).take n)).bind fun l=>some (.s l,σ.kill k) else none
   |_=>none) else none
  |_=>none
 |_=>none
theorem __strings_Builder__String_ent:aa Tryz.prog 21:=Tryz.call21
theorem __strings_Builder__String_sound {O:Type} {RO:O → Loc → (Nat → Option Obj) → Prop}:ae RO Tryz.prog 21 (__strings_Builder__String (O:=O)):=by
 intro xs σ v aj hs ρ fp w args hx hr
 unfold __strings_Builder__String at hs
 split at hs
 ·rename_i b
  split at hs
  ·rename_i el p k o e n hb
   obtain ⟨hc,hs1⟩:=aD hs
   clear hs
   simp only [Bool.and_eq_true,Bool.not_eq_true'] at hc
   obtain ⟨⟨Eo,hn⟩,hkb⟩:=hc
   have Eo:=Nat.eq_of_beq_eq_true Eo
   subst Eo
   have Ve:n≠0:=fun e=>by rw [e] at hn;cases hn
   split at hs1
   ·rename_i el2 cs hk
    obtain ⟨hc2,hs2⟩:=aD hs1
    clear hs1
    simp only [Bool.and_eq_true] at hc2
    have aqs:=Nat.eq_of_beq_eq_true hc2.1
    have YC:=Nat.le_of_ble_eq_true hc2.2
    subst aqs
    obtain ⟨l,hl,hs3⟩:=Option.bind_eq_some_iff.1 hs2
    clear hs2
    simp only [Option.some.injEq,Prod.mk.injEq] at hs3
    obtain ⟨rfl,rfl⟩:=hs3
    obtain ⟨u1,rfl,h1⟩:=alS hx
    obtain ⟨L,hL,rfl⟩:=h1.Eu
    have hL:=hL.tQ
    obtain ⟨arr,p1,p2,p3,p4,p5,p6⟩:=hr.own hb hL
    obtain ⟨e1,e2⟩:=hr.alone hb hL ahp p2
    obtain ⟨_,u0,g1,g2⟩:=p6 0 p rfl
    obtain ⟨_,u2,g3,g4⟩:=p6 1 (.sl (.loc (.n k) o e) n) rfl
    rw [e1] at g1 g3 ⊢
    have aqt:arr = #[u0,u2]:=by
     apply Array.ext_getElem?
     intro i
     match i with
     |0=>simpa using g1
     |1=>simpa using g3
     |i+2=>
      have:arr.size=2:=e2
      simp [Array.getElem?_eq_none,this]
    subst aqt
    generalize hu2:u2=uu at g4
    cases g4 with
    |QK=>exact absurd rfl Ve
    |sl _ _ _ cap L2 S5 q1 q2 q3=>
     subst hu2
     have S5:=S5.tQ
     obtain ⟨cur,r1,r2,r3,r4,r5,r6⟩:=hr.own hk S5
     have we:σ.O8 (.n k) o n=some ((cs.drop o).take n):=by simp only [AH.O8,hk];rw [Nat.ble_eq_true_of_le YC];rfl
     obtain ⟨us,k1,k2,k3,k4⟩:=eN hr (.n k L2 S5) we
     have f1:=T7 hl k1
     have hll:l.length=n:=by rw [f1] at k3;simpa using k3
     have cells:∀ j x,l[j]? = some x → w.cell? ⟨L2.B,L2.O+o+j,none⟩=some (.int .u8 x.toNat):=by
      intro j x hj
      have:=k4 j (.int .u8 x.toNat) (by rw [f1,List.getElem?_map,hj];rfl)
      rw [Nat.add_assoc];exact this
     have key:=Tryz.Q8 L.B L2.B (L2.O+o) cap u0 l w cur (0,0) (fun e=>by rw [e] at hll;exact Ve hll.symm) (by rw [hll];exact p2) r2 (by omega) q2 (by omega) cells
     refine key.mono ?_
     rintro e w' ⟨rfl,rfl⟩
     obtain ⟨fp',hp⟩:=aO.abB (S:=(· < σ.next)) hr k (B0:=L2.B) (by rw [r1];simp [bp]) (w':=w.drew.freeze ⟨L2.B,L2.O+o,none⟩ l.length) (by unfold World.freeze;split<;>simp [World.drew,-World.drew_eq]) (fun B hB=>by
      unfold World.freeze
      split
      ·rfl
      ·show (w.heap.modify L2.B _)[B]? = _
       rw [Array.getElem?_modify,if_neg (fun e=>hB e.symm)]) (by unfold World.freeze;split<;>rfl) (by unfold World.freeze;split<;>rfl) (by unfold World.freeze;split<;>rfl)
     refine ⟨ρ,fp',_,rfl,?_,hp⟩
     have:=aI.s (ρ:=ρ) ⟨l.toArray⟩
     simpa using this
   ·cases hs1
  ·cases hs
 ·cases hs
end Go.Abs.Tryz
