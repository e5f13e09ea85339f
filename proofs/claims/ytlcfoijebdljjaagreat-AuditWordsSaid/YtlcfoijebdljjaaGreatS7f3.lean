/-
  What the functions of the program do, each as a function of Lean, and that it does so. No conditions.
-/
import Derived.Test.YtlcfoijebdljjaaGreatProg
import Derived.Test.YtlcfoijebdljjaaGreatS7f2
import Derived.KernelRfl
set_option linter.unusedVariables false
set_option linter.unusedSimpArgs false
set_option linter.constructorNameAsVariable false
set_option maxRecDepth 100000
namespace Go.Abs.Tryz
open Go Go.Abs Go.Proofs
/-- haymow/audit.Objects -/
noncomputable def audit_Objects_c {O : Type} (k66 : Sm O) : Sm O := fun xs σ =>
 bif Nat.beq xs.length 1 then
 (AV.asP (xs.getD 0 .u)).bind fun p0 =>
 (k66 [(.p p0)] σ).bind fun r1 =>
 (AV.asP r1.1).bind fun p2 =>
 Option.bind p2 fun q3 =>
 (r1.2.ld q3.1 (q3.2 + 1)).bind fun w4 =>
 (AV.asSl w4).bind fun l5 =>
 some (L l5, r1.2)
 else none
noncomputable def audit_Objects {O : Type} : Sm O := audit_Objects_c audit_over
theorem audit_Objects_ent : Entered Tryz.prog 41 := Tryz.call41
theorem audit_Objects_run {O : Type} (k66 : Sm O) : run (O := O) Tryz.prog [(66, k66)] Tryz.f41 (.n .z .z) = audit_Objects_c k66 := by kernel_rfl
theorem audit_Objects_sound {O : Type} {RO : O → Loc → (Nat → Option Obj) → Prop} : FSound RO Tryz.prog 41 (audit_Objects) :=
   have h : FSound RO Tryz.prog 41 (audit_Objects_c audit_over) := (audit_Objects_run audit_over) ▸ run_sound (gcons audit_over_ent (audit_over_sound) <| gnil) mixed Tryz.func41 (by kernel_rfl) _
   h

/-- (*haymow/store.Store).SetWord -/
noncomputable def store_Store__SetWord_c {O : Type} (k67 k69 k68 : Sm O) : Sm O := fun xs σ =>
 bif Nat.beq xs.length 4 then
 (AV.asP (xs.getD 0 .u)).bind fun p0 =>
 (AV.asI .u64 (xs.getD 1 .u)).bind fun n1 =>
 (AV.asI .i64 (xs.getD 2 .u)).bind fun n2 =>
 (AV.asI .u64 (xs.getD 3 .u)).bind fun n3 =>
 (k67 [(.i .u64 n1)] σ).bind fun r4 =>
 (AV.asI .i64 r4.1).bind fun n5 =>
 (bif ((n5 : Int) == 0) then
 none
 else (bif ((n5 : Int) == 1) then
 Option.bind p0 fun q6 =>
 (r4.2.ld q6.1 (q6.2 + 1)).bind fun w7 =>
 (AV.asP w7).bind fun p8 =>
 (k69 [(.i .u64 n1)] r4.2).bind fun r9 =>
 (AV.asI .i64 r9.1).bind fun n10 =>
 (chkE (r9.2.ld q6.1 (q6.2 + 1)) (some (.p p8))).bind fun _ =>
 (k68 [(.p p8), (.i .i64 (IntKind.i64.wrap (n10 + n2))), (.i .u64 n3)] r9.2).bind fun r11 =>
 (AV.asI .i64 r11.1).bind fun n12 =>
 some (J n12, r11.2)
 else none))
 else none
noncomputable def store_Store__SetWord {O : Type} : Sm O := store_Store__SetWord_c ref_Ref__Kind ref_Ref__At semi_Semi__Write
theorem store_Store__SetWord_ent : Entered Tryz.prog 43 := Tryz.call43
theorem store_Store__SetWord_run {O : Type} (k67 k69 k68 : Sm O) : run (O := O) Tryz.prog [(67, k67), (69, k69), (68, k68)] Tryz.f43 (.n .z (.n (.n .z (.n (.n .z (.n .x (.n .z (.n (.n (.d [] [0, 1, 2, 3, 4, 5, 7, 9, 6, 8, 10, 11] [0, 1, 3, 7, 15, 0, 32, 0, 224, 0, 1023, 2047]) .z) .x)))) .z)) .z)) = store_Store__SetWord_c k67 k69 k68 := by kernel_rfl
theorem store_Store__SetWord_sound {O : Type} {RO : O → Loc → (Nat → Option Obj) → Prop} : FSound RO Tryz.prog 43 (store_Store__SetWord) :=
   have h : FSound RO Tryz.prog 43 (store_Store__SetWord_c ref_Ref__Kind ref_Ref__At semi_Semi__Write) := (store_Store__SetWord_run ref_Ref__Kind ref_Ref__At semi_Semi__Write) ▸ run_sound (gcons ref_Ref__Kind_ent (ref_Ref__Kind_sound) <| gcons ref_Ref__At_ent (ref_Ref__At_sound) <| gcons semi_Semi__Write_ent (semi_Semi__Write_sound) <| gnil) mixed Tryz.func43 (by kernel_rfl) _
   h

/-- haymow/haymowlaw39.awake -/
noncomputable def law39_awake_p {O : Type} (w : Words O) (k39 k38 k40 k41 k42 k43 : Sm O) : Sm O := fun xs σ =>
 bif Nat.beq xs.length 0 then
 let σ0 := σ.bump 2
 (k39 [] σ0).bind fun r1 =>
 (AV.asAgg 5 r1.1).bind fun c2 =>
 I6 c2 0 fun n3 => I6 c2 1 fun n4 => I6 c2 2 fun n5 => I6 c2 3 fun n6 => I6 c2 4 fun n7 => let σ8 := r1.2.put σ.next (.cells true 71 (P9 1 0 0 0 0 0 0 1 1 0))
 (k38 [(.agg [J n3, J n4, J n5, J n6, J n7]), (.sl (.loc (.n σ.next) 0 5) 2)] σ8).bind fun r9 =>
 (AV.asTup 3 r9.1).bind fun c10 =>
 (AV.asP (c10.getD 0 .u)).bind fun p11 =>
 (AV.asAgg 264 (c10.getD 1 .u)).bind fun c12 =>
 w.U2 c12 fun n13 n14 n15 n16 n17 l18 l19 n20 l21 l22 n23 l24 n25 l26 l27 n28 l29 n30 n31 n32 n33 n34 n35 n36 n37 n38 n39 n40 n41 n42 n43 n44 n45 l46 n47 n48 n49 n50 n51 n52 n53 n54 n55 n56 n57 n58 n59 n60 n61 n62 n63 n64 n65 n66 n67 n68 n69 n70 n71 n72 n73 n74 n75 n76 n77 n78 n79 n80 n81 n82 n83 n84 n85 n86 n87 n88 n89 n90 n91 n92 n93 n94 n95 n96 n97 n98 n99 n100 n101 n102 n103 n104 n105 n106 n107 n108 n109 n110 n111 n112 n113 n114 n115 n116 n117 n118 n119 n120 n121 n122 n123 n124 n125 n126 n127 n128 n129 n130 n131 n132 n133 n134 n135 n136 n137 n138 n139 n140 n141 n142 n143 n144 n145 n146 n147 n148 n149 n150 n151 n152 n153 n154 n155 n156 n157 n158 n159 n160 n161 n162 n163 n164 n165 n166 n167 n168 n169 n170 n171 n172 n173 n174 n175 n176 n177 n178 n179 n180 n181 n182 n183 n184 n185 n186 n187 n188 n189 n190 n191 n192 n193 n194 n195 n196 n197 n198 n199 n200 n201 n202 n203 n204 n205 n206 n207 n208 n209 n210 n211 n212 n213 n214 n215 n216 n217 n218 n219 n220 n221 n222 n223 n224 n225 n226 n227 n228 n229 n230 n231 n232 n233 n234 n235 n236 n237 n238 n239 n240 n241 n242 n243 n244 n245 n246 n247 n248 n249 n250 n251 n252 n253 n254 n255 n256 n257 n258 n259 n260 n261 n262 n263 n264 n265 n266 n267 n268 n269 n270 l271 n272 n273 n274 n275 n276 =>
 (AV.asB (c10.getD 2 .u)).bind fun b277 =>
 let σ278 := r9.2.put (σ.next + 1) (.cells true 67 P7)
 (σ278.st (.n (σ.next + 1)) 0 (P8 n13 n14 n15 n16 n17 l18 l19 n20 l21 l22 n23 l24 n25 l26 l27 n28 l29 n30 n31 n32 n33 n34 n35 n36 n37 n38 n39 n40 n41 n42 n43 n44 n45 l46 n47 n48 n49 n50 n51 n52 n53 n54 n55 n56 n57 n58 n59 n60 n61 n62 n63 n64 n65 n66 n67 n68 n69 n70 n71 n72 n73 n74 n75 n76 n77 n78 n79 n80 n81 n82 n83 n84 n85 n86 n87 n88 n89 n90 n91 n92 n93 n94 n95 n96 n97 n98 n99 n100 n101 n102 n103 n104 n105 n106 n107 n108 n109 n110 n111 n112 n113 n114 n115 n116 n117 n118 n119 n120 n121 n122 n123 n124 n125 n126 n127 n128 n129 n130 n131 n132 n133 n134 n135 n136 n137 n138 n139 n140 n141 n142 n143 n144 n145 n146 n147 n148 n149 n150 n151 n152 n153 n154 n155 n156 n157 n158 n159 n160 n161 n162 n163 n164 n165 n166 n167 n168 n169 n170 n171 n172 n173 n174 n175 n176 n177 n178 n179 n180 n181 n182 n183 n184 n185 n186 n187 n188 n189 n190 n191 n192 n193 n194 n195 n196 n197 n198 n199 n200 n201 n202 n203 n204 n205 n206 n207 n208 n209 n210 n211 n212 n213 n214 n215 n216 n217 n218 n219 n220 n221 n222 n223 n224 n225 n226 n227 n228 n229 n230 n231 n232 n233 n234 n235 n236 n237 n238 n239 n240 n241 n242 n243 n244 n245 n246 n247 n248 n249 n250 n251 n252 n253 n254 n255 n256 n257 n258 n259 n260 n261 n262 n263 n264 n265 n266 n267 n268 n269 n270 l271 n272 n273 n274 n275 n276)).bind fun σ279 =>
 ((bif ((!b277) == false) then
 (k40 [(.p p11)] σ279).bind fun r280 =>
 (AV.asSl r280.1).bind fun l281 =>
 some ([(.b (((l281.2 : Int) : Int) != 0))], r280.2)
 else some ([(.b true)], σ279)) : Option (List AV × AH O)).bind fun r282 =>
 (AV.asB (r282.1.getD 0 .u)).bind fun b283 =>
 ((bif (b283 == false) then
 (k41 [(.p p11)] r282.2).bind fun r284 =>
 (AV.asSl r284.1).bind fun l285 =>
 some ([(.b (((l285.2 : Int) : Int) != 1))], r284.2)
 else some ([(.b true)], r282.2)) : Option (List AV × AH O)).bind fun r286 =>
 (AV.asB (r286.1.getD 0 .u)).bind fun b287 =>
 (bif b287 then
 none
 else (k42 [(.p p11)] r286.2).bind fun r288 =>
 (AV.asP r288.1).bind fun p289 =>
 (k43 [(.p p289), (.i .u64 1), J 0, (.i .u64 0)] r288.2).bind fun r290 =>
 (AV.asI .i64 r290.1).bind fun n291 =>
 (k40 [(.p p11)] r290.2).bind fun r292 =>
 (AV.asSl r292.1).bind fun l293 =>
 ((bif ((((l293.2 : Int) : Int) == 1) == true) then
 (bif (decide ((0 : Int) < (l293.2 : Int))) then
 (SA.ref l293.1).bind fun q294 =>
 (r292.2.ld q294.1 q294.2).bind fun w295 =>
 (AV.asI .i64 w295).bind fun n296 =>
 (r292.2.ld q294.1 (q294.2 + 1)).bind fun w297 =>
 (AV.asI .i64 w297).bind fun n298 =>
 let c299 : Bool := (((n296 : Int) == 1) && (((n298 : Int) == 0) && true))
 some ([(.b c299)], r292.2)
 else none)
 else some ([(.b false)], r292.2)) : Option (List AV × AH O)).bind fun r300 =>
 (AV.asB (r300.1.getD 0 .u)).bind fun b301 =>
 some ((.b b301), r300.2))
 else none
noncomputable def law39_awake_c {O : Type} (k39 k38 k40 k41 k42 k43 : Sm O) : Sm O := law39_awake_p fastWords k39 k38 k40 k41 k42 k43
noncomputable def law39_awake {O : Type} : Sm O := law39_awake_c law39_usual law39_made audit_Look audit_Objects heap_Heap__Space store_Store__SetWord
theorem law39_awake_ent : Entered Tryz.prog 17 := Tryz.call17
theorem law39_awake_run {O : Type} (k39 k38 k40 k41 k42 k43 : Sm O) : run (O := O) Tryz.prog [(39, k39), (38, k38), (40, k40), (41, k41), (42, k42), (43, k43)] Tryz.f17 (.n .z (.n .z (.n (.n (.g [(2, 4, [(21, .one .b)]), (8, 4, [(27, .one .b)])]) (.n .x .z)) (.n .z (.n .z (.n (.g [(3, 5, [(42, .one .b)])]) .z)))))) = law39_awake_c k39 k38 k40 k41 k42 k43 :=
 (show run (O := O) Tryz.prog [(39, k39), (38, k38), (40, k40), (41, k41), (42, k42), (43, k43)] Tryz.f17 (.n .z (.n .z (.n (.n (.g [(2, 4, [(21, .one .b)]), (8, 4, [(27, .one .b)])]) (.n .x .z)) (.n .z (.n .z (.n (.g [(3, 5, [(42, .one .b)])]) .z)))))) = law39_awake_p slowWords k39 k38 k40 k41 k42 k43 by kernel_rfl).trans (congrArg (fun w => law39_awake_p w k39 k38 k40 k41 k42 k43) words_eq)
theorem law39_awake_sound {O : Type} {RO : O → Loc → (Nat → Option Obj) → Prop} : FSound RO Tryz.prog 17 (law39_awake) :=
   have h : FSound RO Tryz.prog 17 (law39_awake_c law39_usual law39_made audit_Look audit_Objects heap_Heap__Space store_Store__SetWord) := (law39_awake_run law39_usual law39_made audit_Look audit_Objects heap_Heap__Space store_Store__SetWord) ▸ run_sound (gcons law39_usual_ent (law39_usual_sound) <| gcons law39_made_ent (law39_made_sound) <| gcons audit_Look_ent (audit_Look_sound) <| gcons audit_Objects_ent (audit_Objects_sound) <| gcons heap_Heap__Space_ent (heap_Heap__Space_sound) <| gcons store_Store__SetWord_ent (store_Store__SetWord_sound) <| gnil) mixed Tryz.func17 (by kernel_rfl) _
   h

/-- (haymow/audit.Kind).Word -/
noncomputable def audit_Kind__Word_c {O : Type} : Sm O := fun xs σ =>
 bif Nat.beq xs.length 1 then
 (AV.asI .i64 (xs.getD 0 .u)).bind fun n0 =>
 (bif ((n0 : Int) == 1) then
 some ((.s ([119, 97, 108, 107] : List UInt8)), σ)
 else (bif ((n0 : Int) == 2) then
 some ((.s ([104, 101, 97, 100] : List UInt8)), σ)
 else (bif ((n0 : Int) == 3) then
 some ((.s ([112, 111, 105, 110, 116, 101, 114] : List UInt8)), σ)
 else (bif ((n0 : Int) == 4) then
 some ((.s ([114, 111, 111, 116] : List UInt8)), σ)
 else (bif ((n0 : Int) == 5) then
 some ((.s ([119, 101, 97, 107] : List UInt8)), σ)
 else (bif ((n0 : Int) == 6) then
 some ((.s ([99, 104, 97, 114, 103, 101] : List UInt8)), σ)
 else some ((.s ([] : List UInt8)), σ)))))))
 else none
noncomputable def audit_Kind__Word {O : Type} : Sm O := audit_Kind__Word_c
theorem audit_Kind__Word_ent : Entered Tryz.prog 18 := Tryz.call18
theorem audit_Kind__Word_run {O : Type} : run (O := O) Tryz.prog [] Tryz.f18 (.n .z (.n (.n .z (.n (.n .z (.n .z (.n .z (.n .z (.n .z (.n .z (.n .z (.n .z (.n .z (.n .z (.n .z (.n .z .z)))))))))))) .z)) .z)) = audit_Kind__Word_c  := by kernel_rfl
theorem audit_Kind__Word_sound {O : Type} {RO : O → Loc → (Nat → Option Obj) → Prop} : FSound RO Tryz.prog 18 (audit_Kind__Word) :=
   have h : FSound RO Tryz.prog 18 (audit_Kind__Word_c) := (audit_Kind__Word_run) ▸ run_sound (gnil) mixed Tryz.func18 (by kernel_rfl) _
   h

/-- haymow/haymowref39.Word -/
noncomputable def haymowref39_Word_c {O : Type} : Sm O := fun xs σ =>
 bif Nat.beq xs.length 1 then
 (AV.asI .i64 (xs.getD 0 .u)).bind fun n0 =>
 (bif ((n0 : Int) == 1) then
 some ((.s ([119, 97, 108, 107] : List UInt8)), σ)
 else (bif ((n0 : Int) == 2) then
 some ((.s ([104, 101, 97, 100] : List UInt8)), σ)
 else (bif ((n0 : Int) == 3) then
 some ((.s ([112, 111, 105, 110, 116, 101, 114] : List UInt8)), σ)
 else (bif ((n0 : Int) == 4) then
 some ((.s ([114, 111, 111, 116] : List UInt8)), σ)
 else (bif ((n0 : Int) == 5) then
 some ((.s ([119, 101, 97, 107] : List UInt8)), σ)
 else (bif ((n0 : Int) == 6) then
 some ((.s ([99, 104, 97, 114, 103, 101] : List UInt8)), σ)
 else some ((.s ([] : List UInt8)), σ)))))))
 else none
noncomputable def haymowref39_Word {O : Type} : Sm O := haymowref39_Word_c
theorem haymowref39_Word_ent : Entered Tryz.prog 19 := Tryz.call19
theorem haymowref39_Word_run {O : Type} : run (O := O) Tryz.prog [] Tryz.f19 (.n .z (.n (.n .z (.n (.n .z (.n .z (.n .z (.n .z (.n .z (.n .z (.n .z (.n .z (.n .z (.n .z (.n .z (.n .z .z)))))))))))) .z)) .z)) = haymowref39_Word_c  := by kernel_rfl
theorem haymowref39_Word_sound {O : Type} {RO : O → Loc → (Nat → Option Obj) → Prop} : FSound RO Tryz.prog 19 (haymowref39_Word) :=
   have h : FSound RO Tryz.prog 19 (haymowref39_Word_c) := (haymowref39_Word_run) ▸ run_sound (gnil) mixed Tryz.func19 (by kernel_rfl) _
   h

/-- haymow/haymowlaw39.AuditWords -/
noncomputable def law39_AuditWords_c {O : Type} (k17 k18 k19 : Sm O) : Sm O := fun xs σ =>
 bif Nat.beq xs.length 1 then
 (AV.asI .i64 (xs.getD 0 .u)).bind fun n0 =>
 (k17 [] σ).bind fun r1 =>
 (AV.asB r1.1).bind fun b2 =>
 (bif (!b2) then
 some ((.b false), r1.2)
 else (k18 [J n0] r1.2).bind fun r3 =>
 (AV.asS r3.1).bind fun s4 =>
 (k19 [J n0] r3.2).bind fun r5 =>
 (AV.asS r5.1).bind fun s6 =>
 some ((.b (s4 == s6)), r5.2))
 else none
noncomputable def law39_AuditWords {O : Type} : Sm O := law39_AuditWords_c law39_awake audit_Kind__Word haymowref39_Word
theorem law39_AuditWords_ent : Entered Tryz.prog 4 := Tryz.call4
theorem law39_AuditWords_run {O : Type} (k17 k18 k19 : Sm O) : run (O := O) Tryz.prog [(17, k17), (18, k18), (19, k19)] Tryz.f4 (.n .z (.n (.n .z (.n .z .z)) .z)) = law39_AuditWords_c k17 k18 k19 := by kernel_rfl
theorem law39_AuditWords_sound {O : Type} {RO : O → Loc → (Nat → Option Obj) → Prop} : FSound RO Tryz.prog 4 (law39_AuditWords) :=
   have h : FSound RO Tryz.prog 4 (law39_AuditWords_c law39_awake audit_Kind__Word haymowref39_Word) := (law39_AuditWords_run law39_awake audit_Kind__Word haymowref39_Word) ▸ run_sound (gcons law39_awake_ent (law39_awake_sound) <| gcons audit_Kind__Word_ent (audit_Kind__Word_sound) <| gcons haymowref39_Word_ent (haymowref39_Word_sound) <| gnil) mixed Tryz.func4 (by kernel_rfl) _
   h

end Go.Abs.Tryz
