/-
  What functions of the program do. No conditions.
-/
import Derived.Test.YtnbichnjfamdkaaGreatS11a
import Derived.Test.YtnbichnjfamdkaaGreatProg
import Derived.Test.YtnbichnjfamdkaaGreatS11c
import Derived.KernelRfl
set_option linter.unusedVariables false
set_option linter.unusedSimpArgs false
set_option linter.constructorNameAsVariable false
set_option maxRecDepth 100000
namespace Go.Abs.Tryz
open Go Go.Abs Go.Proofs
noncomputable section
variable {O : Type} {RO : O → Loc → (Nat → Option Obj) → Prop}
def haymowref33_Get_p (w : Words O) (k216 k170 : Sm O) : Sm O := fun xs h =>
 bif Nat.beq xs.length 2 then
 (AV.asAgg 264 (xs.getD 0 .u)).bind fun c0 =>
 w.U2 c0 fun n1 n2 n3 n4 n5 l6 l7 n8 l9 l10 n11 l12 n13 l14 l15 n16 l17 n18 n19 n20 n21 n22 n23 n24 n25 n26 n27 n28 n29 n30 n31 n32 n33 l34 n35 n36 n37 n38 n39 n40 n41 n42 n43 n44 n45 n46 n47 n48 n49 n50 n51 n52 n53 n54 n55 n56 n57 n58 n59 n60 n61 n62 n63 n64 n65 n66 n67 n68 n69 n70 n71 n72 n73 n74 n75 n76 n77 n78 n79 n80 n81 n82 n83 n84 n85 n86 n87 n88 n89 n90 n91 n92 n93 n94 n95 n96 n97 n98 n99 n100 n101 n102 n103 n104 n105 n106 n107 n108 n109 n110 n111 n112 n113 n114 n115 n116 n117 n118 n119 n120 n121 n122 n123 n124 n125 n126 n127 n128 n129 n130 n131 n132 n133 n134 n135 n136 n137 n138 n139 n140 n141 n142 n143 n144 n145 n146 n147 n148 n149 n150 n151 n152 n153 n154 n155 n156 n157 n158 n159 n160 n161 n162 n163 n164 n165 n166 n167 n168 n169 n170 n171 n172 n173 n174 n175 n176 n177 n178 n179 n180 n181 n182 n183 n184 n185 n186 n187 n188 n189 n190 n191 n192 n193 n194 n195 n196 n197 n198 n199 n200 n201 n202 n203 n204 n205 n206 n207 n208 n209 n210 n211 n212 n213 n214 n215 n216 n217 n218 n219 n220 n221 n222 n223 n224 n225 n226 n227 n228 n229 n230 n231 n232 n233 n234 n235 n236 n237 n238 n239 n240 n241 n242 n243 n244 n245 n246 n247 n248 n249 n250 n251 n252 n253 n254 n255 n256 n257 n258 l259 n260 n261 n262 n263 n264 =>
 (AV.asI .i64 (xs.getD 1 .u)).bind fun n265 =>
 let h266 := h.bump 1
 let h267 := h266.put h.next (.cells true 62 (P8 n1 n2 n3 n4 n5 l6 l7 n8 l9 l10 n11 l12 n13 l14 l15 n16 l17 n18 n19 n20 n21 n22 n23 n24 n25 n26 n27 n28 n29 n30 n31 n32 n33 l34 n35 n36 n37 n38 n39 n40 n41 n42 n43 n44 n45 n46 n47 n48 n49 n50 n51 n52 n53 n54 n55 n56 n57 n58 n59 n60 n61 n62 n63 n64 n65 n66 n67 n68 n69 n70 n71 n72 n73 n74 n75 n76 n77 n78 n79 n80 n81 n82 n83 n84 n85 n86 n87 n88 n89 n90 n91 n92 n93 n94 n95 n96 n97 n98 n99 n100 n101 n102 n103 n104 n105 n106 n107 n108 n109 n110 n111 n112 n113 n114 n115 n116 n117 n118 n119 n120 n121 n122 n123 n124 n125 n126 n127 n128 n129 n130 n131 n132 n133 n134 n135 n136 n137 n138 n139 n140 n141 n142 n143 n144 n145 n146 n147 n148 n149 n150 n151 n152 n153 n154 n155 n156 n157 n158 n159 n160 n161 n162 n163 n164 n165 n166 n167 n168 n169 n170 n171 n172 n173 n174 n175 n176 n177 n178 n179 n180 n181 n182 n183 n184 n185 n186 n187 n188 n189 n190 n191 n192 n193 n194 n195 n196 n197 n198 n199 n200 n201 n202 n203 n204 n205 n206 n207 n208 n209 n210 n211 n212 n213 n214 n215 n216 n217 n218 n219 n220 n221 n222 n223 n224 n225 n226 n227 n228 n229 n230 n231 n232 n233 n234 n235 n236 n237 n238 n239 n240 n241 n242 n243 n244 n245 n246 n247 n248 n249 n250 n251 n252 n253 n254 n255 n256 n257 n258 l259 n260 n261 n262 n263 n264))
 w.W1 h267 (.n h.next) 6 fun l269 n271 l273 l275 n277 l279 n281 l283 l285 n287 l289 =>
 (k216 [(.agg (P6 l269 n271 l273 l275 n277 l279 n281 l283 l285 n287 l289)), J n265] h267).bind fun r290 =>
 (AV.asTup 2 r290.1).bind fun c291 =>
 (AV.asI .u64 (c291.getD 0 .u)).bind fun n292 =>
 I6 c291 1 fun n293 => (k170 [(.i .u64 n292)] r290.2).bind fun r294 =>
 (AV.asI .i64 r294.1).bind fun n295 =>
 some ((.tup [J n295, J n293]), r294.2)
 else none
def haymowref33_Get_c (k216 k170 : Sm O) : Sm O := haymowref33_Get_p fastWords k216 k170
def haymowref33_Get : Sm O := haymowref33_Get_c haymowref19_Get haymowref33_node
theorem haymowref33_Get_ent : Entered Tryz.prog 141 := Tryz.call141
theorem haymowref33_Get_run (k216 k170 : Sm O) : run (O := O) Tryz.prog [(216, k216), (170, k170)] Tryz.f141 (.n .z (.n .z .z)) = haymowref33_Get_c k216 k170 :=
 (show run (O := O) Tryz.prog [(216, k216), (170, k170)] Tryz.f141 (.n .z (.n .z .z)) = haymowref33_Get_p slowWords k216 k170 by kernel_rfl).trans (congrArg (fun w => haymowref33_Get_p w k216 k170) words_eq)
theorem haymowref33_Get_sound : FSound RO Tryz.prog 141 haymowref33_Get := sdf (haymowref33_Get_run _ _) (gcons haymowref19_Get_ent haymowref19_Get_sound <| gcons haymowref33_node_ent haymowref33_node_sound <| gnil) Tryz.func141 (by kernel_rfl)
def haymowref17_Words_L1 (l0 : SA × Nat) : List AV × AH O → Option ((List AV × AH O) ⊕ (List AV × AH O)) := (fun r1 =>
 (AV.asI .i64 (r1.1.getD 0 .u)).bind fun n2 =>
 (AV.asI .i64 (r1.1.getD 1 .u)).bind fun n3 =>
 (bif (decide (n3 < (l0.2 : Int))) then
 none
 else some (Sum.inr ([J n2], r1.2))))
def haymowref17_Words_c : Sm O := fun xs h =>
 bif Nat.beq xs.length 1 then
 (AV.asSl (xs.getD 0 .u)).bind fun l0 =>
 (loopF (S := List AV × AH O) (T := List AV × AH O) (haymowref17_Words_L1 l0) ([J 0, J 0], h)).bind fun r4 =>
 (AV.asI .i64 (r4.1.getD 0 .u)).bind fun n5 =>
 some (J n5, r4.2)
 else none
def haymowref17_Words : Sm O := haymowref17_Words_c
theorem haymowref17_Words_ent : Entered Tryz.prog 322 := Tryz.call322
theorem haymowref17_Words_run : run (O := O) Tryz.prog [] Tryz.f322 (.n .z (.n .z (.n (.n .z (.n (.lp false 0 [(3, .one (.i .i64)), (4, .one (.i .i64))] [(3, .one (.i .i64))] (.n (.n .z (.n .x .z)) (.n .z .z))) .z)) .z))) = haymowref17_Words_c  := by kernel_rfl
theorem haymowref17_Words_sound : FSound RO Tryz.prog 322 haymowref17_Words := sdf haymowref17_Words_run (gnil) Tryz.func322 (by kernel_rfl)
def haymowref19_Charge_p (w : Words O) (k322 : Sm O) : Sm O := fun xs h =>
 bif Nat.beq xs.length 1 then
 (AV.asAgg 11 (xs.getD 0 .u)).bind fun c0 =>
 w.U1 c0 fun l1 n2 l3 l4 n5 l6 n7 l8 l9 n10 l11 =>
 let h12 := h.bump 1
 let h13 := h12.put h.next (.cells true 52 (P6 l1 n2 l3 l4 n5 l6 n7 l8 l9 n10 l11))
 (h13.ld (.n h.next) 0).bind fun w14 =>
 (AV.asSl w14).bind fun l15 =>
 (h13.ld (.n h.next) 5).bind fun w16 =>
 (AV.asSl w16).bind fun l17 =>
 (h13.ld (.n h.next) 10).bind fun w18 =>
 (AV.asSl w18).bind fun l19 =>
 (k322 [L l15] h13).bind fun r20 =>
 (AV.asI .i64 r20.1).bind fun n21 =>
 (chkE (r20.2.ld (.n h.next) 5) (some (.sl l17.1 l17.2))).bind fun _ =>
 (chkE (r20.2.ld (.n h.next) 10) (some (.sl l19.1 l19.2))).bind fun _ =>
 let v22 : Int := (IntKind.i64.wrap (n21 + (IntKind.i64.wrap (4 * (l17.2 : Int)))))
 let v23 : Int := (IntKind.i64.wrap (v22 + (IntKind.i64.wrap (4 * (l19.2 : Int)))))
 some (J v23, r20.2)
 else none
def haymowref19_Charge_c (k322 : Sm O) : Sm O := haymowref19_Charge_p fastWords k322
def haymowref19_Charge : Sm O := haymowref19_Charge_c haymowref17_Words
theorem haymowref19_Charge_ent : Entered Tryz.prog 259 := Tryz.call259
theorem haymowref19_Charge_run (k322 : Sm O) : run (O := O) Tryz.prog [(322, k322)] Tryz.f259 (.n .z (.n (.d [] [0, 1, 3, 4, 5, 6, 7, 9, 10, 11, 12, 13, 2, 8, 14, 15] [0, 1, 3, 0, 8, 24, 56, 120, 255, 0, 512, 1536, 3584, 7680, 16383, 32767]) .z)) = haymowref19_Charge_c k322 :=
 (show run (O := O) Tryz.prog [(322, k322)] Tryz.f259 (.n .z (.n (.d [] [0, 1, 3, 4, 5, 6, 7, 9, 10, 11, 12, 13, 2, 8, 14, 15] [0, 1, 3, 0, 8, 24, 56, 120, 255, 0, 512, 1536, 3584, 7680, 16383, 32767]) .z)) = haymowref19_Charge_p slowWords k322 by kernel_rfl).trans (congrArg (fun w => haymowref19_Charge_p w k322) words_eq)
theorem haymowref19_Charge_sound : FSound RO Tryz.prog 259 haymowref19_Charge := sdf (haymowref19_Charge_run _) (gcons haymowref17_Words_ent haymowref17_Words_sound <| gnil) Tryz.func259 (by kernel_rfl)
def haymowref33_Used_p (w : Words O) (k259 : Sm O) : Sm O := fun xs h =>
 bif Nat.beq xs.length 1 then
 (AV.asAgg 264 (xs.getD 0 .u)).bind fun c0 =>
 w.U2 c0 fun n1 n2 n3 n4 n5 l6 l7 n8 l9 l10 n11 l12 n13 l14 l15 n16 l17 n18 n19 n20 n21 n22 n23 n24 n25 n26 n27 n28 n29 n30 n31 n32 n33 l34 n35 n36 n37 n38 n39 n40 n41 n42 n43 n44 n45 n46 n47 n48 n49 n50 n51 n52 n53 n54 n55 n56 n57 n58 n59 n60 n61 n62 n63 n64 n65 n66 n67 n68 n69 n70 n71 n72 n73 n74 n75 n76 n77 n78 n79 n80 n81 n82 n83 n84 n85 n86 n87 n88 n89 n90 n91 n92 n93 n94 n95 n96 n97 n98 n99 n100 n101 n102 n103 n104 n105 n106 n107 n108 n109 n110 n111 n112 n113 n114 n115 n116 n117 n118 n119 n120 n121 n122 n123 n124 n125 n126 n127 n128 n129 n130 n131 n132 n133 n134 n135 n136 n137 n138 n139 n140 n141 n142 n143 n144 n145 n146 n147 n148 n149 n150 n151 n152 n153 n154 n155 n156 n157 n158 n159 n160 n161 n162 n163 n164 n165 n166 n167 n168 n169 n170 n171 n172 n173 n174 n175 n176 n177 n178 n179 n180 n181 n182 n183 n184 n185 n186 n187 n188 n189 n190 n191 n192 n193 n194 n195 n196 n197 n198 n199 n200 n201 n202 n203 n204 n205 n206 n207 n208 n209 n210 n211 n212 n213 n214 n215 n216 n217 n218 n219 n220 n221 n222 n223 n224 n225 n226 n227 n228 n229 n230 n231 n232 n233 n234 n235 n236 n237 n238 n239 n240 n241 n242 n243 n244 n245 n246 n247 n248 n249 n250 n251 n252 n253 n254 n255 n256 n257 n258 l259 n260 n261 n262 n263 n264 =>
 let h265 := h.bump 1
 let h266 := h265.put h.next (.cells true 62 (P8 n1 n2 n3 n4 n5 l6 l7 n8 l9 l10 n11 l12 n13 l14 l15 n16 l17 n18 n19 n20 n21 n22 n23 n24 n25 n26 n27 n28 n29 n30 n31 n32 n33 l34 n35 n36 n37 n38 n39 n40 n41 n42 n43 n44 n45 n46 n47 n48 n49 n50 n51 n52 n53 n54 n55 n56 n57 n58 n59 n60 n61 n62 n63 n64 n65 n66 n67 n68 n69 n70 n71 n72 n73 n74 n75 n76 n77 n78 n79 n80 n81 n82 n83 n84 n85 n86 n87 n88 n89 n90 n91 n92 n93 n94 n95 n96 n97 n98 n99 n100 n101 n102 n103 n104 n105 n106 n107 n108 n109 n110 n111 n112 n113 n114 n115 n116 n117 n118 n119 n120 n121 n122 n123 n124 n125 n126 n127 n128 n129 n130 n131 n132 n133 n134 n135 n136 n137 n138 n139 n140 n141 n142 n143 n144 n145 n146 n147 n148 n149 n150 n151 n152 n153 n154 n155 n156 n157 n158 n159 n160 n161 n162 n163 n164 n165 n166 n167 n168 n169 n170 n171 n172 n173 n174 n175 n176 n177 n178 n179 n180 n181 n182 n183 n184 n185 n186 n187 n188 n189 n190 n191 n192 n193 n194 n195 n196 n197 n198 n199 n200 n201 n202 n203 n204 n205 n206 n207 n208 n209 n210 n211 n212 n213 n214 n215 n216 n217 n218 n219 n220 n221 n222 n223 n224 n225 n226 n227 n228 n229 n230 n231 n232 n233 n234 n235 n236 n237 n238 n239 n240 n241 n242 n243 n244 n245 n246 n247 n248 n249 n250 n251 n252 n253 n254 n255 n256 n257 n258 l259 n260 n261 n262 n263 n264))
 (h266.ld (.n h.next) 25).bind fun w267 =>
 (AV.asI .i64 w267).bind fun n268 =>
 w.W1 h266 (.n h.next) 6 fun l270 n272 l274 l276 n278 l280 n282 l284 l286 n288 l290 =>
 (k259 [(.agg (P6 l270 n272 l274 l276 n278 l280 n282 l284 l286 n288 l290))] h266).bind fun r291 =>
 (AV.asI .i64 r291.1).bind fun n292 =>
 (chkE (r291.2.ld (.n h.next) 25) (some (.i .i64 n268))).bind fun _ =>
 some ((.i .i64 (IntKind.i64.wrap (n268 + n292))), r291.2)
 else none
def haymowref33_Used_c (k259 : Sm O) : Sm O := haymowref33_Used_p fastWords k259
def haymowref33_Used : Sm O := haymowref33_Used_c haymowref19_Charge
theorem haymowref33_Used_ent : Entered Tryz.prog 199 := Tryz.call199
theorem haymowref33_Used_run (k259 : Sm O) : run (O := O) Tryz.prog [(259, k259)] Tryz.f199 (.n .z (.n (.d [] [0, 1, 2, 3, 4, 5, 6] [0, 1, 0, 4, 12, 31, 63]) .z)) = haymowref33_Used_c k259 :=
 (show run (O := O) Tryz.prog [(259, k259)] Tryz.f199 (.n .z (.n (.d [] [0, 1, 2, 3, 4, 5, 6] [0, 1, 0, 4, 12, 31, 63]) .z)) = haymowref33_Used_p slowWords k259 by kernel_rfl).trans (congrArg (fun w => haymowref33_Used_p w k259) words_eq)
theorem haymowref33_Used_sound : FSound RO Tryz.prog 199 haymowref33_Used := sdf (haymowref33_Used_run _) (gcons haymowref19_Charge_ent haymowref19_Charge_sound <| gnil) Tryz.func199 (by kernel_rfl)
def haymowref28_held_c : Sm O := fun xs h =>
 bif Nat.beq xs.length 1 then
 (AV.asI .i64 (xs.getD 0 .u)).bind fun n0 =>
 (bif (decide (n0 < 0)) then
 none
 else some (J n0, h))
 else none
def haymowref28_held : Sm O := haymowref28_held_c
theorem haymowref28_held_ent : Entered Tryz.prog 255 := Tryz.call255
theorem haymowref28_held_run : run (O := O) Tryz.prog [] Tryz.f255 (.n .z (.n (.n .z (.n .x .z)) .z)) = haymowref28_held_c  := by kernel_rfl
theorem haymowref28_held_sound : FSound RO Tryz.prog 255 haymowref28_held := sdf haymowref28_held_run (gnil) Tryz.func255 (by kernel_rfl)
def haymowref28_Fits_c (k255 : Sm O) : Sm O := fun xs h =>
 bif Nat.beq xs.length 3 then
 (AV.asI .i64 (xs.getD 0 .u)).bind fun n0 =>
 (AV.asI .i64 (xs.getD 1 .u)).bind fun n1 =>
 (AV.asI .i64 (xs.getD 2 .u)).bind fun n2 =>
 (k255 [J n0] h).bind fun r3 =>
 (AV.asI .i64 r3.1).bind fun n4 =>
 ((bif ((decide (n4 ≤ n2)) == true) then
 (k255 [J n1] r3.2).bind fun r5 =>
 (AV.asI .i64 r5.1).bind fun n6 =>
 (k255 [J n0] r5.2).bind fun r7 =>
 (AV.asI .i64 r7.1).bind fun n8 =>
 some ([(.b (decide (n6 ≤ (IntKind.i64.wrap (n2 - n8)))))], r7.2)
 else some ([(.b false)], r3.2)) : Option (List AV × AH O)).bind fun r9 =>
 (AV.asB (r9.1.getD 0 .u)).bind fun b10 =>
 some ((.b b10), r9.2)
 else none
def haymowref28_Fits : Sm O := haymowref28_Fits_c haymowref28_held
theorem haymowref28_Fits_ent : Entered Tryz.prog 217 := Tryz.call217
theorem haymowref28_Fits_run (k255 : Sm O) : run (O := O) Tryz.prog [(255, k255)] Tryz.f217 (.n .z (.n (.g [(4, 7, [(19, .one .b)])]) .z)) = haymowref28_Fits_c k255 := by kernel_rfl
theorem haymowref28_Fits_sound : FSound RO Tryz.prog 217 haymowref28_Fits := sdf (haymowref28_Fits_run _) (gcons haymowref28_held_ent haymowref28_held_sound <| gnil) Tryz.func217 (by kernel_rfl)
def haymowref33_Request_p (w : Words O) (k199 k217 : Sm O) : Sm O := fun xs h =>
 bif Nat.beq xs.length 2 then
 (AV.asAgg 264 (xs.getD 0 .u)).bind fun c0 =>
 w.U2 c0 fun n1 n2 n3 n4 n5 l6 l7 n8 l9 l10 n11 l12 n13 l14 l15 n16 l17 n18 n19 n20 n21 n22 n23 n24 n25 n26 n27 n28 n29 n30 n31 n32 n33 l34 n35 n36 n37 n38 n39 n40 n41 n42 n43 n44 n45 n46 n47 n48 n49 n50 n51 n52 n53 n54 n55 n56 n57 n58 n59 n60 n61 n62 n63 n64 n65 n66 n67 n68 n69 n70 n71 n72 n73 n74 n75 n76 n77 n78 n79 n80 n81 n82 n83 n84 n85 n86 n87 n88 n89 n90 n91 n92 n93 n94 n95 n96 n97 n98 n99 n100 n101 n102 n103 n104 n105 n106 n107 n108 n109 n110 n111 n112 n113 n114 n115 n116 n117 n118 n119 n120 n121 n122 n123 n124 n125 n126 n127 n128 n129 n130 n131 n132 n133 n134 n135 n136 n137 n138 n139 n140 n141 n142 n143 n144 n145 n146 n147 n148 n149 n150 n151 n152 n153 n154 n155 n156 n157 n158 n159 n160 n161 n162 n163 n164 n165 n166 n167 n168 n169 n170 n171 n172 n173 n174 n175 n176 n177 n178 n179 n180 n181 n182 n183 n184 n185 n186 n187 n188 n189 n190 n191 n192 n193 n194 n195 n196 n197 n198 n199 n200 n201 n202 n203 n204 n205 n206 n207 n208 n209 n210 n211 n212 n213 n214 n215 n216 n217 n218 n219 n220 n221 n222 n223 n224 n225 n226 n227 n228 n229 n230 n231 n232 n233 n234 n235 n236 n237 n238 n239 n240 n241 n242 n243 n244 n245 n246 n247 n248 n249 n250 n251 n252 n253 n254 n255 n256 n257 n258 l259 n260 n261 n262 n263 n264 =>
 (AV.asI .i64 (xs.getD 1 .u)).bind fun n265 =>
 let h266 := h.bump 2
 let h267 := h266.put h.next (.cells true 62 (P8 n1 n2 n3 n4 n5 l6 l7 n8 l9 l10 n11 l12 n13 l14 l15 n16 l17 n18 n19 n20 n21 n22 n23 n24 n25 n26 n27 n28 n29 n30 n31 n32 n33 l34 n35 n36 n37 n38 n39 n40 n41 n42 n43 n44 n45 n46 n47 n48 n49 n50 n51 n52 n53 n54 n55 n56 n57 n58 n59 n60 n61 n62 n63 n64 n65 n66 n67 n68 n69 n70 n71 n72 n73 n74 n75 n76 n77 n78 n79 n80 n81 n82 n83 n84 n85 n86 n87 n88 n89 n90 n91 n92 n93 n94 n95 n96 n97 n98 n99 n100 n101 n102 n103 n104 n105 n106 n107 n108 n109 n110 n111 n112 n113 n114 n115 n116 n117 n118 n119 n120 n121 n122 n123 n124 n125 n126 n127 n128 n129 n130 n131 n132 n133 n134 n135 n136 n137 n138 n139 n140 n141 n142 n143 n144 n145 n146 n147 n148 n149 n150 n151 n152 n153 n154 n155 n156 n157 n158 n159 n160 n161 n162 n163 n164 n165 n166 n167 n168 n169 n170 n171 n172 n173 n174 n175 n176 n177 n178 n179 n180 n181 n182 n183 n184 n185 n186 n187 n188 n189 n190 n191 n192 n193 n194 n195 n196 n197 n198 n199 n200 n201 n202 n203 n204 n205 n206 n207 n208 n209 n210 n211 n212 n213 n214 n215 n216 n217 n218 n219 n220 n221 n222 n223 n224 n225 n226 n227 n228 n229 n230 n231 n232 n233 n234 n235 n236 n237 n238 n239 n240 n241 n242 n243 n244 n245 n246 n247 n248 n249 n250 n251 n252 n253 n254 n255 n256 n257 n258 l259 n260 n261 n262 n263 n264))
 let h268 := h267.put (h.next + 1) (.cells true 62 P7)
 w.W2 h268 (.n h.next) 0 fun n270 n272 n274 n276 n278 l280 l282 n284 l286 l288 n290 l292 n294 l296 l298 n300 l302 n304 n306 n308 n310 n312 n314 n316 n318 n320 n322 n324 n326 n328 n330 n332 n334 l336 n338 n340 n342 n344 n346 n348 n350 n352 n354 n356 n358 n360 n362 n364 n366 n368 n370 n372 n374 n376 n378 n380 n382 n384 n386 n388 n390 n392 n394 n396 n398 n400 n402 n404 n406 n408 n410 n412 n414 n416 n418 n420 n422 n424 n426 n428 n430 n432 n434 n436 n438 n440 n442 n444 n446 n448 n450 n452 n454 n456 n458 n460 n462 n464 n466 n468 n470 n472 n474 n476 n478 n480 n482 n484 n486 n488 n490 n492 n494 n496 n498 n500 n502 n504 n506 n508 n510 n512 n514 n516 n518 n520 n522 n524 n526 n528 n530 n532 n534 n536 n538 n540 n542 n544 n546 n548 n550 n552 n554 n556 n558 n560 n562 n564 n566 n568 n570 n572 n574 n576 n578 n580 n582 n584 n586 n588 n590 n592 n594 n596 n598 n600 n602 n604 n606 n608 n610 n612 n614 n616 n618 n620 n622 n624 n626 n628 n630 n632 n634 n636 n638 n640 n642 n644 n646 n648 n650 n652 n654 n656 n658 n660 n662 n664 n666 n668 n670 n672 n674 n676 n678 n680 n682 n684 n686 n688 n690 n692 n694 n696 n698 n700 n702 n704 n706 n708 n710 n712 n714 n716 n718 n720 n722 n724 n726 n728 n730 n732 n734 n736 n738 n740 n742 n744 n746 n748 n750 n752 n754 n756 n758 n760 n762 n764 n766 n768 n770 n772 n774 n776 n778 n780 n782 n784 l786 n788 n790 n792 n794 n796 =>
 (h268.ld (.n h.next) 22).bind fun w797 =>
 (AV.asI .i64 w797).bind fun n798 =>
 (k199 [(.agg (P8 n270 n272 n274 n276 n278 l280 l282 n284 l286 l288 n290 l292 n294 l296 l298 n300 l302 n304 n306 n308 n310 n312 n314 n316 n318 n320 n322 n324 n326 n328 n330 n332 n334 l336 n338 n340 n342 n344 n346 n348 n350 n352 n354 n356 n358 n360 n362 n364 n366 n368 n370 n372 n374 n376 n378 n380 n382 n384 n386 n388 n390 n392 n394 n396 n398 n400 n402 n404 n406 n408 n410 n412 n414 n416 n418 n420 n422 n424 n426 n428 n430 n432 n434 n436 n438 n440 n442 n444 n446 n448 n450 n452 n454 n456 n458 n460 n462 n464 n466 n468 n470 n472 n474 n476 n478 n480 n482 n484 n486 n488 n490 n492 n494 n496 n498 n500 n502 n504 n506 n508 n510 n512 n514 n516 n518 n520 n522 n524 n526 n528 n530 n532 n534 n536 n538 n540 n542 n544 n546 n548 n550 n552 n554 n556 n558 n560 n562 n564 n566 n568 n570 n572 n574 n576 n578 n580 n582 n584 n586 n588 n590 n592 n594 n596 n598 n600 n602 n604 n606 n608 n610 n612 n614 n616 n618 n620 n622 n624 n626 n628 n630 n632 n634 n636 n638 n640 n642 n644 n646 n648 n650 n652 n654 n656 n658 n660 n662 n664 n666 n668 n670 n672 n674 n676 n678 n680 n682 n684 n686 n688 n690 n692 n694 n696 n698 n700 n702 n704 n706 n708 n710 n712 n714 n716 n718 n720 n722 n724 n726 n728 n730 n732 n734 n736 n738 n740 n742 n744 n746 n748 n750 n752 n754 n756 n758 n760 n762 n764 n766 n768 n770 n772 n774 n776 n778 n780 n782 n784 l786 n788 n790 n792 n794 n796))] h268).bind fun r799 =>
 (AV.asI .i64 r799.1).bind fun n800 =>
 (chkE (r799.2.ld (.n h.next) 22) (some (.i .i64 n798))).bind fun _ =>
 (k217 [J n800, J n265, J n798] r799.2).bind fun r801 =>
 (AV.asB r801.1).bind fun b802 =>
 (bif (!b802) then
 none
 else (r801.2.ld (.n h.next) 29).bind fun w803 =>
 (AV.asI .i64 w803).bind fun n804 =>
 (r801.2.st (.n h.next) 29 [(.i .i64 (IntKind.i64.wrap (n804 + n265)))]).bind fun h805 =>
 w.W2 h805 (.n h.next) 0 fun n807 n809 n811 n813 n815 l817 l819 n821 l823 l825 n827 l829 n831 l833 l835 n837 l839 n841 n843 n845 n847 n849 n851 n853 n855 n857 n859 n861 n863 n865 n867 n869 n871 l873 n875 n877 n879 n881 n883 n885 n887 n889 n891 n893 n895 n897 n899 n901 n903 n905 n907 n909 n911 n913 n915 n917 n919 n921 n923 n925 n927 n929 n931 n933 n935 n937 n939 n941 n943 n945 n947 n949 n951 n953 n955 n957 n959 n961 n963 n965 n967 n969 n971 n973 n975 n977 n979 n981 n983 n985 n987 n989 n991 n993 n995 n997 n999 n1001 n1003 n1005 n1007 n1009 n1011 n1013 n1015 n1017 n1019 n1021 n1023 n1025 n1027 n1029 n1031 n1033 n1035 n1037 n1039 n1041 n1043 n1045 n1047 n1049 n1051 n1053 n1055 n1057 n1059 n1061 n1063 n1065 n1067 n1069 n1071 n1073 n1075 n1077 n1079 n1081 n1083 n1085 n1087 n1089 n1091 n1093 n1095 n1097 n1099 n1101 n1103 n1105 n1107 n1109 n1111 n1113 n1115 n1117 n1119 n1121 n1123 n1125 n1127 n1129 n1131 n1133 n1135 n1137 n1139 n1141 n1143 n1145 n1147 n1149 n1151 n1153 n1155 n1157 n1159 n1161 n1163 n1165 n1167 n1169 n1171 n1173 n1175 n1177 n1179 n1181 n1183 n1185 n1187 n1189 n1191 n1193 n1195 n1197 n1199 n1201 n1203 n1205 n1207 n1209 n1211 n1213 n1215 n1217 n1219 n1221 n1223 n1225 n1227 n1229 n1231 n1233 n1235 n1237 n1239 n1241 n1243 n1245 n1247 n1249 n1251 n1253 n1255 n1257 n1259 n1261 n1263 n1265 n1267 n1269 n1271 n1273 n1275 n1277 n1279 n1281 n1283 n1285 n1287 n1289 n1291 n1293 n1295 n1297 n1299 n1301 n1303 n1305 n1307 n1309 n1311 n1313 n1315 n1317 n1319 n1321 l1323 n1325 n1327 n1329 n1331 n1333 =>
 (h805.st (.n (h.next + 1)) 0 (P8 n807 n809 n811 n813 n815 l817 l819 n821 l823 l825 n827 l829 n831 l833 l835 n837 l839 n841 n843 n845 n847 n849 n851 n853 n855 n857 n859 n861 n863 n865 n867 n869 n871 l873 n875 n877 n879 n881 n883 n885 n887 n889 n891 n893 n895 n897 n899 n901 n903 n905 n907 n909 n911 n913 n915 n917 n919 n921 n923 n925 n927 n929 n931 n933 n935 n937 n939 n941 n943 n945 n947 n949 n951 n953 n955 n957 n959 n961 n963 n965 n967 n969 n971 n973 n975 n977 n979 n981 n983 n985 n987 n989 n991 n993 n995 n997 n999 n1001 n1003 n1005 n1007 n1009 n1011 n1013 n1015 n1017 n1019 n1021 n1023 n1025 n1027 n1029 n1031 n1033 n1035 n1037 n1039 n1041 n1043 n1045 n1047 n1049 n1051 n1053 n1055 n1057 n1059 n1061 n1063 n1065 n1067 n1069 n1071 n1073 n1075 n1077 n1079 n1081 n1083 n1085 n1087 n1089 n1091 n1093 n1095 n1097 n1099 n1101 n1103 n1105 n1107 n1109 n1111 n1113 n1115 n1117 n1119 n1121 n1123 n1125 n1127 n1129 n1131 n1133 n1135 n1137 n1139 n1141 n1143 n1145 n1147 n1149 n1151 n1153 n1155 n1157 n1159 n1161 n1163 n1165 n1167 n1169 n1171 n1173 n1175 n1177 n1179 n1181 n1183 n1185 n1187 n1189 n1191 n1193 n1195 n1197 n1199 n1201 n1203 n1205 n1207 n1209 n1211 n1213 n1215 n1217 n1219 n1221 n1223 n1225 n1227 n1229 n1231 n1233 n1235 n1237 n1239 n1241 n1243 n1245 n1247 n1249 n1251 n1253 n1255 n1257 n1259 n1261 n1263 n1265 n1267 n1269 n1271 n1273 n1275 n1277 n1279 n1281 n1283 n1285 n1287 n1289 n1291 n1293 n1295 n1297 n1299 n1301 n1303 n1305 n1307 n1309 n1311 n1313 n1315 n1317 n1319 n1321 l1323 n1325 n1327 n1329 n1331 n1333)).bind fun h1334 =>
 w.W2 h1334 (.n (h.next + 1)) 0 fun n1336 n1338 n1340 n1342 n1344 l1346 l1348 n1350 l1352 l1354 n1356 l1358 n1360 l1362 l1364 n1366 l1368 n1370 n1372 n1374 n1376 n1378 n1380 n1382 n1384 n1386 n1388 n1390 n1392 n1394 n1396 n1398 n1400 l1402 n1404 n1406 n1408 n1410 n1412 n1414 n1416 n1418 n1420 n1422 n1424 n1426 n1428 n1430 n1432 n1434 n1436 n1438 n1440 n1442 n1444 n1446 n1448 n1450 n1452 n1454 n1456 n1458 n1460 n1462 n1464 n1466 n1468 n1470 n1472 n1474 n1476 n1478 n1480 n1482 n1484 n1486 n1488 n1490 n1492 n1494 n1496 n1498 n1500 n1502 n1504 n1506 n1508 n1510 n1512 n1514 n1516 n1518 n1520 n1522 n1524 n1526 n1528 n1530 n1532 n1534 n1536 n1538 n1540 n1542 n1544 n1546 n1548 n1550 n1552 n1554 n1556 n1558 n1560 n1562 n1564 n1566 n1568 n1570 n1572 n1574 n1576 n1578 n1580 n1582 n1584 n1586 n1588 n1590 n1592 n1594 n1596 n1598 n1600 n1602 n1604 n1606 n1608 n1610 n1612 n1614 n1616 n1618 n1620 n1622 n1624 n1626 n1628 n1630 n1632 n1634 n1636 n1638 n1640 n1642 n1644 n1646 n1648 n1650 n1652 n1654 n1656 n1658 n1660 n1662 n1664 n1666 n1668 n1670 n1672 n1674 n1676 n1678 n1680 n1682 n1684 n1686 n1688 n1690 n1692 n1694 n1696 n1698 n1700 n1702 n1704 n1706 n1708 n1710 n1712 n1714 n1716 n1718 n1720 n1722 n1724 n1726 n1728 n1730 n1732 n1734 n1736 n1738 n1740 n1742 n1744 n1746 n1748 n1750 n1752 n1754 n1756 n1758 n1760 n1762 n1764 n1766 n1768 n1770 n1772 n1774 n1776 n1778 n1780 n1782 n1784 n1786 n1788 n1790 n1792 n1794 n1796 n1798 n1800 n1802 n1804 n1806 n1808 n1810 n1812 n1814 n1816 n1818 n1820 n1822 n1824 n1826 n1828 n1830 n1832 n1834 n1836 n1838 n1840 n1842 n1844 n1846 n1848 n1850 l1852 n1854 n1856 n1858 n1860 n1862 =>
 some ((.tup [(.agg (P8 n1336 n1338 n1340 n1342 n1344 l1346 l1348 n1350 l1352 l1354 n1356 l1358 n1360 l1362 l1364 n1366 l1368 n1370 n1372 n1374 n1376 n1378 n1380 n1382 n1384 n1386 n1388 n1390 n1392 n1394 n1396 n1398 n1400 l1402 n1404 n1406 n1408 n1410 n1412 n1414 n1416 n1418 n1420 n1422 n1424 n1426 n1428 n1430 n1432 n1434 n1436 n1438 n1440 n1442 n1444 n1446 n1448 n1450 n1452 n1454 n1456 n1458 n1460 n1462 n1464 n1466 n1468 n1470 n1472 n1474 n1476 n1478 n1480 n1482 n1484 n1486 n1488 n1490 n1492 n1494 n1496 n1498 n1500 n1502 n1504 n1506 n1508 n1510 n1512 n1514 n1516 n1518 n1520 n1522 n1524 n1526 n1528 n1530 n1532 n1534 n1536 n1538 n1540 n1542 n1544 n1546 n1548 n1550 n1552 n1554 n1556 n1558 n1560 n1562 n1564 n1566 n1568 n1570 n1572 n1574 n1576 n1578 n1580 n1582 n1584 n1586 n1588 n1590 n1592 n1594 n1596 n1598 n1600 n1602 n1604 n1606 n1608 n1610 n1612 n1614 n1616 n1618 n1620 n1622 n1624 n1626 n1628 n1630 n1632 n1634 n1636 n1638 n1640 n1642 n1644 n1646 n1648 n1650 n1652 n1654 n1656 n1658 n1660 n1662 n1664 n1666 n1668 n1670 n1672 n1674 n1676 n1678 n1680 n1682 n1684 n1686 n1688 n1690 n1692 n1694 n1696 n1698 n1700 n1702 n1704 n1706 n1708 n1710 n1712 n1714 n1716 n1718 n1720 n1722 n1724 n1726 n1728 n1730 n1732 n1734 n1736 n1738 n1740 n1742 n1744 n1746 n1748 n1750 n1752 n1754 n1756 n1758 n1760 n1762 n1764 n1766 n1768 n1770 n1772 n1774 n1776 n1778 n1780 n1782 n1784 n1786 n1788 n1790 n1792 n1794 n1796 n1798 n1800 n1802 n1804 n1806 n1808 n1810 n1812 n1814 n1816 n1818 n1820 n1822 n1824 n1826 n1828 n1830 n1832 n1834 n1836 n1838 n1840 n1842 n1844 n1846 n1848 n1850 l1852 n1854 n1856 n1858 n1860 n1862)), (.b true)]), h1334))
 else none
def haymowref33_Request_c (k199 k217 : Sm O) : Sm O := haymowref33_Request_p fastWords k199 k217
def haymowref33_Request : Sm O := haymowref33_Request_c haymowref33_Used haymowref28_Fits
theorem haymowref33_Request_ent : Entered Tryz.prog 142 := Tryz.call142
theorem haymowref33_Request_run (k199 k217 : Sm O) : run (O := O) Tryz.prog [(199, k199), (217, k217)] Tryz.f142 (.n .z (.n (.n (.d [] [0, 2, 3, 4, 5, 1, 6, 7] [0, 1, 0, 0, 8, 24, 63, 127]) (.n .x .z)) (.n .z .z))) = haymowref33_Request_c k199 k217 :=
 (show run (O := O) Tryz.prog [(199, k199), (217, k217)] Tryz.f142 (.n .z (.n (.n (.d [] [0, 2, 3, 4, 5, 1, 6, 7] [0, 1, 0, 0, 8, 24, 63, 127]) (.n .x .z)) (.n .z .z))) = haymowref33_Request_p slowWords k199 k217 by kernel_rfl).trans (congrArg (fun w => haymowref33_Request_p w k199 k217) words_eq)
theorem haymowref33_Request_sound : FSound RO Tryz.prog 142 haymowref33_Request := sdf (haymowref33_Request_run _ _) (gcons haymowref33_Used_ent haymowref33_Used_sound <| gcons haymowref28_Fits_ent haymowref28_Fits_sound <| gnil) Tryz.func142 (by kernel_rfl)
def haymowref29_Add_c : Sm O := fun xs h =>
 bif Nat.beq xs.length 3 then
 (AV.asSl (xs.getD 0 .u)).bind fun l0 =>
 (AV.asI .i64 (xs.getD 1 .u)).bind fun n1 =>
 (AV.asI .i64 (xs.getD 2 .u)).bind fun n2 =>
 let h3 := h.bump 2
 let h4 := h3.put h.next (.cells true 331 [])
 (h4.rdSl l0.1 l0.2 2).bind fun new5 =>
 (bif (Nat.ble ((0 + l0.2) * 17) 35184372088832) then
 (h4.appSl (h.next + 1) 331 2 (.loc (.n h.next) 0 2) 0 l0.2 new5).bind fun r6 =>
 (AV.asSl r6.1).bind fun l7 =>
 (bif ((decide ((0 : Int) ≤ n1)) && (decide (n1 < (l7.2 : Int)))) then
 (SA.ref l7.1).bind fun q8 =>
 (r6.2.ld q8.1 (q8.2 + (n1.toNat * 2))).bind fun w9 =>
 (AV.asI .i64 w9).bind fun n10 =>
 (bif ((decide ((0 : Int) ≤ n1)) && (decide (n1 < (l7.2 : Int)))) then
 (SA.ref l7.1).bind fun q11 =>
 (r6.2.ld q11.1 ((q11.2 + (n1.toNat * 2)) + 1)).bind fun w12 =>
 (AV.asI .i64 w12).bind fun n13 =>
 (bif ((decide ((0 : Int) ≤ n1)) && (decide (n1 < (l7.2 : Int)))) then
 (SA.ref l7.1).bind fun q14 =>
 (r6.2.st q14.1 (q14.2 + (n1.toNat * 2)) [(.i .i64 (IntKind.i64.wrap (n10 + 1))), (.i .i64 (IntKind.i64.wrap (n13 + n2)))]).bind fun h15 =>
 some (L l7, h15)
 else none)
 else none)
 else none)
 else none)
 else none
def haymowref29_Add : Sm O := haymowref29_Add_c
theorem haymowref29_Add_ent : Entered Tryz.prog 143 := Tryz.call143
theorem haymowref29_Add_run : run (O := O) Tryz.prog [] Tryz.f143 (.n .z (.n .z (.n (.d [] [0, 1, 2, 3, 4, 5, 6, 7, 8, 9, 10, 11, 12, 13, 14, 15, 16, 17] [0, 0, 0, 0, 12, 28, 60, 124, 0, 0, 768, 1792, 3840, 0, 16128, 32764, 65535, 131071]) .z))) = haymowref29_Add_c  := by kernel_rfl
theorem haymowref29_Add_sound : FSound RO Tryz.prog 143 haymowref29_Add := sdf haymowref29_Add_run (gnil) Tryz.func143 (by kernel_rfl)
def haymowref33_word_c : Sm O := fun xs h =>
 bif Nat.beq xs.length 1 then
 (AV.asI .i64 (xs.getD 0 .u)).bind fun n0 =>
 some ((.i .u64 (IntKind.u64.wrap (IntKind.i64.wrap (n0 + 1)))), h)
 else none
def haymowref33_word : Sm O := haymowref33_word_c
theorem haymowref33_word_ent : Entered Tryz.prog 159 := Tryz.call159
theorem haymowref33_word_run : run (O := O) Tryz.prog [] Tryz.f159 (.n .z .z) = haymowref33_word_c  := by kernel_rfl
theorem haymowref33_word_sound : FSound RO Tryz.prog 159 haymowref33_word := sdf haymowref33_word_run (gnil) Tryz.func159 (by kernel_rfl)
def haymowref18_Set_c (k169 : Sm O) : Sm O := fun xs h =>
 bif Nat.beq xs.length 3 then
 (AV.asAgg 5 (xs.getD 0 .u)).bind fun c0 =>
 I6 c0 0 fun n1 => Is c0 1 fun l2 => Is c0 2 fun l3 => I6 c0 3 fun n4 => Is c0 4 fun l5 => (AV.asI .i64 (xs.getD 1 .u)).bind fun n6 =>
 (AV.asI .u64 (xs.getD 2 .u)).bind fun n7 =>
 let h8 := h.bump 2
 let h9 := h8.put h.next (.cells true 50 [J n1, L l2, L l3, J n4, L l5])
 let h10 := h9.put (h.next + 1) (.cells true 50 [J 0, N, N, J 0, N])
 (h10.ld (.n h.next) 0).bind fun w11 =>
 (AV.asI .i64 w11).bind fun n12 =>
 (h10.ld (.n h.next) 1).bind fun w13 =>
 (AV.asSl w13).bind fun l14 =>
 (h10.ld (.n h.next) 2).bind fun w15 =>
 (AV.asSl w15).bind fun l16 =>
 (h10.ld (.n h.next) 3).bind fun w17 =>
 (AV.asI .i64 w17).bind fun n18 =>
 (h10.ld (.n h.next) 4).bind fun w19 =>
 (AV.asSl w19).bind fun l20 =>
 (k169 [(.agg [J n12, L l14, L l16, J n18, L l20]), J n6] h10).bind fun r21 =>
 (AV.asI .i64 r21.1).bind fun n22 =>
 (bif (decide (n22 < 0)) then
 none
 else let h23 := r21.2.bump 2
 let h24 := h23.put r21.2.next (.cells true 283 [])
 (h24.ld (.n h.next) 4).bind fun w25 =>
 (AV.asSl w25).bind fun l26 =>
 (h24.rdSl l26.1 l26.2 2).bind fun new27 =>
 (bif (Nat.ble ((0 + l26.2) * 17) 35184372088832) then
 (h24.appSl (r21.2.next + 1) 283 2 (.loc (.n r21.2.next) 0 2) 0 l26.2 new27).bind fun r28 =>
 (AV.asSl r28.1).bind fun l29 =>
 (r28.2.st (.n h.next) 4 [L l29]).bind fun h30 =>
 (h30.ld (.n h.next) 4).bind fun w31 =>
 (AV.asSl w31).bind fun l32 =>
 (bif ((decide ((0 : Int) ≤ n22)) && (decide (n22 < (l32.2 : Int)))) then
 (SA.ref l32.1).bind fun q33 =>
 (h30.st q33.1 ((q33.2 + (n22.toNat * 2)) + 1) [(.i .u64 n7)]).bind fun h34 =>
 (h34.ld (.n h.next) 0).bind fun w35 =>
 (AV.asI .i64 w35).bind fun n36 =>
 (h34.ld (.n h.next) 1).bind fun w37 =>
 (AV.asSl w37).bind fun l38 =>
 (h34.ld (.n h.next) 2).bind fun w39 =>
 (AV.asSl w39).bind fun l40 =>
 (h34.ld (.n h.next) 3).bind fun w41 =>
 (AV.asI .i64 w41).bind fun n42 =>
 (h34.ld (.n h.next) 4).bind fun w43 =>
 (AV.asSl w43).bind fun l44 =>
 (h34.st (.n (h.next + 1)) 0 [J n36, L l38, L l40, J n42, L l44]).bind fun h45 =>
 (h45.ld (.n (h.next + 1)) 0).bind fun w46 =>
 (AV.asI .i64 w46).bind fun n47 =>
 (h45.ld (.n (h.next + 1)) 1).bind fun w48 =>
 (AV.asSl w48).bind fun l49 =>
 (h45.ld (.n (h.next + 1)) 2).bind fun w50 =>
 (AV.asSl w50).bind fun l51 =>
 (h45.ld (.n (h.next + 1)) 3).bind fun w52 =>
 (AV.asI .i64 w52).bind fun n53 =>
 (h45.ld (.n (h.next + 1)) 4).bind fun w54 =>
 (AV.asSl w54).bind fun l55 =>
 some ((.tup [(.agg [J n47, L l49, L l51, J n53, L l55]), J 0]), h45)
 else none)
 else none))
 else none
def haymowref18_Set : Sm O := haymowref18_Set_c haymowref18_At
theorem haymowref18_Set_ent : Entered Tryz.prog 277 := Tryz.call277
theorem haymowref18_Set_run (k169 : Sm O) : run (O := O) Tryz.prog [(169, k169)] Tryz.f277 (.n .z (.n .z (.n (.n .z (.n .x .z)) (.n .z (.n .z .z))))) = haymowref18_Set_c k169 := by kernel_rfl
theorem haymowref18_Set_sound : FSound RO Tryz.prog 277 haymowref18_Set := sdf (haymowref18_Set_run _) (gcons haymowref18_At_ent haymowref18_At_sound <| gnil) Tryz.func277 (by kernel_rfl)
def haymowref19_Set_p (w : Words O) (k277 : Sm O) : Sm O := fun xs h =>
 bif Nat.beq xs.length 3 then
 (AV.asAgg 11 (xs.getD 0 .u)).bind fun c0 =>
 w.U1 c0 fun l1 n2 l3 l4 n5 l6 n7 l8 l9 n10 l11 =>
 (AV.asI .i64 (xs.getD 1 .u)).bind fun n12 =>
 (AV.asI .u64 (xs.getD 2 .u)).bind fun n13 =>
 let h14 := h.bump 2
 let h15 := h14.put h.next (.cells true 52 (P6 l1 n2 l3 l4 n5 l6 n7 l8 l9 n10 l11))
 let h16 := h15.put (h.next + 1) (.cells true 52 P4)
 (bif (decide (n12 ≥ 0)) then
 (h16.ld (.n h.next) 1).bind fun w17 =>
 (AV.asI .i64 w17).bind fun n18 =>
 (h16.ld (.n h.next) 2).bind fun w19 =>
 (AV.asSl w19).bind fun l20 =>
 (h16.ld (.n h.next) 3).bind fun w21 =>
 (AV.asSl w21).bind fun l22 =>
 (h16.ld (.n h.next) 4).bind fun w23 =>
 (AV.asI .i64 w23).bind fun n24 =>
 (h16.ld (.n h.next) 5).bind fun w25 =>
 (AV.asSl w25).bind fun l26 =>
 (k277 [(.agg [J n18, L l20, L l22, J n24, L l26]), J n12, (.i .u64 n13)] h16).bind fun r27 =>
 (AV.asTup 2 r27.1).bind fun c28 =>
 (AV.asAgg 5 (c28.getD 0 .u)).bind fun c29 =>
 I6 c29 0 fun n30 => Is c29 1 fun l31 => Is c29 2 fun l32 => I6 c29 3 fun n33 => Is c29 4 fun l34 => I6 c28 1 fun n35 => (r27.2.st (.n h.next) 1 [J n30, L l31, L l32, J n33, L l34]).bind fun h36 =>
 w.W1 h36 (.n h.next) 0 fun l38 n40 l42 l44 n46 l48 n50 l52 l54 n56 l58 =>
 (h36.st (.n (h.next + 1)) 0 (P6 l38 n40 l42 l44 n46 l48 n50 l52 l54 n56 l58)).bind fun h59 =>
 w.W1 h59 (.n (h.next + 1)) 0 fun l61 n63 l65 l67 n69 l71 n73 l75 l77 n79 l81 =>
 some ((.tup [(.agg (P6 l61 n63 l65 l67 n69 l71 n73 l75 l77 n79 l81)), J n35]), h59)
 else none)
 else none
def haymowref19_Set_c (k277 : Sm O) : Sm O := haymowref19_Set_p fastWords k277
def haymowref19_Set : Sm O := haymowref19_Set_c haymowref18_Set
theorem haymowref19_Set_ent : Entered Tryz.prog 218 := Tryz.call218
theorem haymowref19_Set_run (k277 : Sm O) : run (O := O) Tryz.prog [(277, k277)] Tryz.f218 (.n .z (.n (.n .z (.n (.n .z (.n .z .z)) .x)) (.n .z (.n (.n .z (.n .z (.n .x .x))) (.n .z .z))))) = haymowref19_Set_c k277 :=
 (show run (O := O) Tryz.prog [(277, k277)] Tryz.f218 (.n .z (.n (.n .z (.n (.n .z (.n .z .z)) .x)) (.n .z (.n (.n .z (.n .z (.n .x .x))) (.n .z .z))))) = haymowref19_Set_p slowWords k277 by kernel_rfl).trans (congrArg (fun w => haymowref19_Set_p w k277) words_eq)
theorem haymowref19_Set_sound : FSound RO Tryz.prog 218 haymowref19_Set := sdf (haymowref19_Set_run _) (gcons haymowref18_Set_ent haymowref18_Set_sound <| gnil) Tryz.func218 (by kernel_rfl)
def haymowref33_Set_p (w : Words O) (k159 k218 : Sm O) : Sm O := fun xs h =>
 bif Nat.beq xs.length 3 then
 (AV.asAgg 264 (xs.getD 0 .u)).bind fun c0 =>
 w.U2 c0 fun n1 n2 n3 n4 n5 l6 l7 n8 l9 l10 n11 l12 n13 l14 l15 n16 l17 n18 n19 n20 n21 n22 n23 n24 n25 n26 n27 n28 n29 n30 n31 n32 n33 l34 n35 n36 n37 n38 n39 n40 n41 n42 n43 n44 n45 n46 n47 n48 n49 n50 n51 n52 n53 n54 n55 n56 n57 n58 n59 n60 n61 n62 n63 n64 n65 n66 n67 n68 n69 n70 n71 n72 n73 n74 n75 n76 n77 n78 n79 n80 n81 n82 n83 n84 n85 n86 n87 n88 n89 n90 n91 n92 n93 n94 n95 n96 n97 n98 n99 n100 n101 n102 n103 n104 n105 n106 n107 n108 n109 n110 n111 n112 n113 n114 n115 n116 n117 n118 n119 n120 n121 n122 n123 n124 n125 n126 n127 n128 n129 n130 n131 n132 n133 n134 n135 n136 n137 n138 n139 n140 n141 n142 n143 n144 n145 n146 n147 n148 n149 n150 n151 n152 n153 n154 n155 n156 n157 n158 n159 n160 n161 n162 n163 n164 n165 n166 n167 n168 n169 n170 n171 n172 n173 n174 n175 n176 n177 n178 n179 n180 n181 n182 n183 n184 n185 n186 n187 n188 n189 n190 n191 n192 n193 n194 n195 n196 n197 n198 n199 n200 n201 n202 n203 n204 n205 n206 n207 n208 n209 n210 n211 n212 n213 n214 n215 n216 n217 n218 n219 n220 n221 n222 n223 n224 n225 n226 n227 n228 n229 n230 n231 n232 n233 n234 n235 n236 n237 n238 n239 n240 n241 n242 n243 n244 n245 n246 n247 n248 n249 n250 n251 n252 n253 n254 n255 n256 n257 n258 l259 n260 n261 n262 n263 n264 =>
 (AV.asI .i64 (xs.getD 1 .u)).bind fun n265 =>
 (AV.asI .i64 (xs.getD 2 .u)).bind fun n266 =>
 let h267 := h.bump 2
 let h268 := h267.put h.next (.cells true 62 (P8 n1 n2 n3 n4 n5 l6 l7 n8 l9 l10 n11 l12 n13 l14 l15 n16 l17 n18 n19 n20 n21 n22 n23 n24 n25 n26 n27 n28 n29 n30 n31 n32 n33 l34 n35 n36 n37 n38 n39 n40 n41 n42 n43 n44 n45 n46 n47 n48 n49 n50 n51 n52 n53 n54 n55 n56 n57 n58 n59 n60 n61 n62 n63 n64 n65 n66 n67 n68 n69 n70 n71 n72 n73 n74 n75 n76 n77 n78 n79 n80 n81 n82 n83 n84 n85 n86 n87 n88 n89 n90 n91 n92 n93 n94 n95 n96 n97 n98 n99 n100 n101 n102 n103 n104 n105 n106 n107 n108 n109 n110 n111 n112 n113 n114 n115 n116 n117 n118 n119 n120 n121 n122 n123 n124 n125 n126 n127 n128 n129 n130 n131 n132 n133 n134 n135 n136 n137 n138 n139 n140 n141 n142 n143 n144 n145 n146 n147 n148 n149 n150 n151 n152 n153 n154 n155 n156 n157 n158 n159 n160 n161 n162 n163 n164 n165 n166 n167 n168 n169 n170 n171 n172 n173 n174 n175 n176 n177 n178 n179 n180 n181 n182 n183 n184 n185 n186 n187 n188 n189 n190 n191 n192 n193 n194 n195 n196 n197 n198 n199 n200 n201 n202 n203 n204 n205 n206 n207 n208 n209 n210 n211 n212 n213 n214 n215 n216 n217 n218 n219 n220 n221 n222 n223 n224 n225 n226 n227 n228 n229 n230 n231 n232 n233 n234 n235 n236 n237 n238 n239 n240 n241 n242 n243 n244 n245 n246 n247 n248 n249 n250 n251 n252 n253 n254 n255 n256 n257 n258 l259 n260 n261 n262 n263 n264))
 let h269 := h268.put (h.next + 1) (.cells true 62 P7)
 w.W1 h269 (.n h.next) 6 fun l271 n273 l275 l277 n279 l281 n283 l285 l287 n289 l291 =>
 (k159 [J n266] h269).bind fun r292 =>
 (AV.asI .u64 r292.1).bind fun n293 =>
 (chkE (r292.2.ld (.n h.next) 6) (some (.sl l271.1 l271.2))).bind fun _ =>
 (chkE (r292.2.ld (.n h.next) 7) (some (.i .i64 n273))).bind fun _ =>
 (chkE (r292.2.ld (.n h.next) 8) (some (.sl l275.1 l275.2))).bind fun _ =>
 (chkE (r292.2.ld (.n h.next) 9) (some (.sl l277.1 l277.2))).bind fun _ =>
 (chkE (r292.2.ld (.n h.next) 10) (some (.i .i64 n279))).bind fun _ =>
 (chkE (r292.2.ld (.n h.next) 11) (some (.sl l281.1 l281.2))).bind fun _ =>
 (chkE (r292.2.ld (.n h.next) 12) (some (.i .i64 n283))).bind fun _ =>
 (chkE (r292.2.ld (.n h.next) 13) (some (.sl l285.1 l285.2))).bind fun _ =>
 (chkE (r292.2.ld (.n h.next) 14) (some (.sl l287.1 l287.2))).bind fun _ =>
 (chkE (r292.2.ld (.n h.next) 15) (some (.i .i64 n289))).bind fun _ =>
 (chkE (r292.2.ld (.n h.next) 16) (some (.sl l291.1 l291.2))).bind fun _ =>
 (k218 [(.agg (P6 l271 n273 l275 l277 n279 l281 n283 l285 l287 n289 l291)), J n265, (.i .u64 n293)] r292.2).bind fun r294 =>
 (AV.asTup 2 r294.1).bind fun c295 =>
 (AV.asAgg 11 (c295.getD 0 .u)).bind fun c296 =>
 w.U1 c296 fun l297 n298 l299 l300 n301 l302 n303 l304 l305 n306 l307 =>
 I6 c295 1 fun n308 => (r294.2.st (.n h.next) 6 (P6 l297 n298 l299 l300 n301 l302 n303 l304 l305 n306 l307)).bind fun h309 =>
 w.W2 h309 (.n h.next) 0 fun n311 n313 n315 n317 n319 l321 l323 n325 l327 l329 n331 l333 n335 l337 l339 n341 l343 n345 n347 n349 n351 n353 n355 n357 n359 n361 n363 n365 n367 n369 n371 n373 n375 l377 n379 n381 n383 n385 n387 n389 n391 n393 n395 n397 n399 n401 n403 n405 n407 n409 n411 n413 n415 n417 n419 n421 n423 n425 n427 n429 n431 n433 n435 n437 n439 n441 n443 n445 n447 n449 n451 n453 n455 n457 n459 n461 n463 n465 n467 n469 n471 n473 n475 n477 n479 n481 n483 n485 n487 n489 n491 n493 n495 n497 n499 n501 n503 n505 n507 n509 n511 n513 n515 n517 n519 n521 n523 n525 n527 n529 n531 n533 n535 n537 n539 n541 n543 n545 n547 n549 n551 n553 n555 n557 n559 n561 n563 n565 n567 n569 n571 n573 n575 n577 n579 n581 n583 n585 n587 n589 n591 n593 n595 n597 n599 n601 n603 n605 n607 n609 n611 n613 n615 n617 n619 n621 n623 n625 n627 n629 n631 n633 n635 n637 n639 n641 n643 n645 n647 n649 n651 n653 n655 n657 n659 n661 n663 n665 n667 n669 n671 n673 n675 n677 n679 n681 n683 n685 n687 n689 n691 n693 n695 n697 n699 n701 n703 n705 n707 n709 n711 n713 n715 n717 n719 n721 n723 n725 n727 n729 n731 n733 n735 n737 n739 n741 n743 n745 n747 n749 n751 n753 n755 n757 n759 n761 n763 n765 n767 n769 n771 n773 n775 n777 n779 n781 n783 n785 n787 n789 n791 n793 n795 n797 n799 n801 n803 n805 n807 n809 n811 n813 n815 n817 n819 n821 n823 n825 l827 n829 n831 n833 n835 n837 =>
 (h309.st (.n (h.next + 1)) 0 (P8 n311 n313 n315 n317 n319 l321 l323 n325 l327 l329 n331 l333 n335 l337 l339 n341 l343 n345 n347 n349 n351 n353 n355 n357 n359 n361 n363 n365 n367 n369 n371 n373 n375 l377 n379 n381 n383 n385 n387 n389 n391 n393 n395 n397 n399 n401 n403 n405 n407 n409 n411 n413 n415 n417 n419 n421 n423 n425 n427 n429 n431 n433 n435 n437 n439 n441 n443 n445 n447 n449 n451 n453 n455 n457 n459 n461 n463 n465 n467 n469 n471 n473 n475 n477 n479 n481 n483 n485 n487 n489 n491 n493 n495 n497 n499 n501 n503 n505 n507 n509 n511 n513 n515 n517 n519 n521 n523 n525 n527 n529 n531 n533 n535 n537 n539 n541 n543 n545 n547 n549 n551 n553 n555 n557 n559 n561 n563 n565 n567 n569 n571 n573 n575 n577 n579 n581 n583 n585 n587 n589 n591 n593 n595 n597 n599 n601 n603 n605 n607 n609 n611 n613 n615 n617 n619 n621 n623 n625 n627 n629 n631 n633 n635 n637 n639 n641 n643 n645 n647 n649 n651 n653 n655 n657 n659 n661 n663 n665 n667 n669 n671 n673 n675 n677 n679 n681 n683 n685 n687 n689 n691 n693 n695 n697 n699 n701 n703 n705 n707 n709 n711 n713 n715 n717 n719 n721 n723 n725 n727 n729 n731 n733 n735 n737 n739 n741 n743 n745 n747 n749 n751 n753 n755 n757 n759 n761 n763 n765 n767 n769 n771 n773 n775 n777 n779 n781 n783 n785 n787 n789 n791 n793 n795 n797 n799 n801 n803 n805 n807 n809 n811 n813 n815 n817 n819 n821 n823 n825 l827 n829 n831 n833 n835 n837)).bind fun h838 =>
 w.W2 h838 (.n (h.next + 1)) 0 fun n840 n842 n844 n846 n848 l850 l852 n854 l856 l858 n860 l862 n864 l866 l868 n870 l872 n874 n876 n878 n880 n882 n884 n886 n888 n890 n892 n894 n896 n898 n900 n902 n904 l906 n908 n910 n912 n914 n916 n918 n920 n922 n924 n926 n928 n930 n932 n934 n936 n938 n940 n942 n944 n946 n948 n950 n952 n954 n956 n958 n960 n962 n964 n966 n968 n970 n972 n974 n976 n978 n980 n982 n984 n986 n988 n990 n992 n994 n996 n998 n1000 n1002 n1004 n1006 n1008 n1010 n1012 n1014 n1016 n1018 n1020 n1022 n1024 n1026 n1028 n1030 n1032 n1034 n1036 n1038 n1040 n1042 n1044 n1046 n1048 n1050 n1052 n1054 n1056 n1058 n1060 n1062 n1064 n1066 n1068 n1070 n1072 n1074 n1076 n1078 n1080 n1082 n1084 n1086 n1088 n1090 n1092 n1094 n1096 n1098 n1100 n1102 n1104 n1106 n1108 n1110 n1112 n1114 n1116 n1118 n1120 n1122 n1124 n1126 n1128 n1130 n1132 n1134 n1136 n1138 n1140 n1142 n1144 n1146 n1148 n1150 n1152 n1154 n1156 n1158 n1160 n1162 n1164 n1166 n1168 n1170 n1172 n1174 n1176 n1178 n1180 n1182 n1184 n1186 n1188 n1190 n1192 n1194 n1196 n1198 n1200 n1202 n1204 n1206 n1208 n1210 n1212 n1214 n1216 n1218 n1220 n1222 n1224 n1226 n1228 n1230 n1232 n1234 n1236 n1238 n1240 n1242 n1244 n1246 n1248 n1250 n1252 n1254 n1256 n1258 n1260 n1262 n1264 n1266 n1268 n1270 n1272 n1274 n1276 n1278 n1280 n1282 n1284 n1286 n1288 n1290 n1292 n1294 n1296 n1298 n1300 n1302 n1304 n1306 n1308 n1310 n1312 n1314 n1316 n1318 n1320 n1322 n1324 n1326 n1328 n1330 n1332 n1334 n1336 n1338 n1340 n1342 n1344 n1346 n1348 n1350 n1352 n1354 l1356 n1358 n1360 n1362 n1364 n1366 =>
 some ((.tup [(.agg (P8 n840 n842 n844 n846 n848 l850 l852 n854 l856 l858 n860 l862 n864 l866 l868 n870 l872 n874 n876 n878 n880 n882 n884 n886 n888 n890 n892 n894 n896 n898 n900 n902 n904 l906 n908 n910 n912 n914 n916 n918 n920 n922 n924 n926 n928 n930 n932 n934 n936 n938 n940 n942 n944 n946 n948 n950 n952 n954 n956 n958 n960 n962 n964 n966 n968 n970 n972 n974 n976 n978 n980 n982 n984 n986 n988 n990 n992 n994 n996 n998 n1000 n1002 n1004 n1006 n1008 n1010 n1012 n1014 n1016 n1018 n1020 n1022 n1024 n1026 n1028 n1030 n1032 n1034 n1036 n1038 n1040 n1042 n1044 n1046 n1048 n1050 n1052 n1054 n1056 n1058 n1060 n1062 n1064 n1066 n1068 n1070 n1072 n1074 n1076 n1078 n1080 n1082 n1084 n1086 n1088 n1090 n1092 n1094 n1096 n1098 n1100 n1102 n1104 n1106 n1108 n1110 n1112 n1114 n1116 n1118 n1120 n1122 n1124 n1126 n1128 n1130 n1132 n1134 n1136 n1138 n1140 n1142 n1144 n1146 n1148 n1150 n1152 n1154 n1156 n1158 n1160 n1162 n1164 n1166 n1168 n1170 n1172 n1174 n1176 n1178 n1180 n1182 n1184 n1186 n1188 n1190 n1192 n1194 n1196 n1198 n1200 n1202 n1204 n1206 n1208 n1210 n1212 n1214 n1216 n1218 n1220 n1222 n1224 n1226 n1228 n1230 n1232 n1234 n1236 n1238 n1240 n1242 n1244 n1246 n1248 n1250 n1252 n1254 n1256 n1258 n1260 n1262 n1264 n1266 n1268 n1270 n1272 n1274 n1276 n1278 n1280 n1282 n1284 n1286 n1288 n1290 n1292 n1294 n1296 n1298 n1300 n1302 n1304 n1306 n1308 n1310 n1312 n1314 n1316 n1318 n1320 n1322 n1324 n1326 n1328 n1330 n1332 n1334 n1336 n1338 n1340 n1342 n1344 n1346 n1348 n1350 n1352 n1354 l1356 n1358 n1360 n1362 n1364 n1366)), J n308]), h838)
 else none
def haymowref33_Set_c (k159 k218 : Sm O) : Sm O := haymowref33_Set_p fastWords k159 k218
def haymowref33_Set : Sm O := haymowref33_Set_c haymowref33_word haymowref19_Set
theorem haymowref33_Set_ent : Entered Tryz.prog 144 := Tryz.call144
theorem haymowref33_Set_run (k159 k218 : Sm O) : run (O := O) Tryz.prog [(159, k159), (218, k218)] Tryz.f144 (.n .z (.n .z (.n (.d [] [0, 1, 2, 3, 4, 5, 6, 7, 8, 9, 10, 11] [0, 1, 0, 0, 8, 31, 63, 127, 127, 255, 767, 2047]) .z))) = haymowref33_Set_c k159 k218 :=
 (show run (O := O) Tryz.prog [(159, k159), (218, k218)] Tryz.f144 (.n .z (.n .z (.n (.d [] [0, 1, 2, 3, 4, 5, 6, 7, 8, 9, 10, 11] [0, 1, 0, 0, 8, 31, 63, 127, 127, 255, 767, 2047]) .z))) = haymowref33_Set_p slowWords k159 k218 by kernel_rfl).trans (congrArg (fun w => haymowref33_Set_p w k159 k218) words_eq)
theorem haymowref33_Set_sound : FSound RO Tryz.prog 144 haymowref33_Set := sdf (haymowref33_Set_run _ _) (gcons haymowref33_word_ent haymowref33_word_sound <| gcons haymowref19_Set_ent haymowref19_Set_sound <| gnil) Tryz.func144 (by kernel_rfl)
def haymowref33_Alloc_L1 (w : Words O) (h : AH O) (h1623 : AH O) : List AV × AH O → Option ((List AV × AH O) ⊕ (List AV × AH O)) := (fun r1642 =>
 (AV.asI .i64 (r1642.1.getD 0 .u)).bind fun n1643 =>
 (r1642.2.ld (.n (h.next + 1)) 0).bind fun w1644 =>
 (AV.asI .i64 w1644).bind fun n1645 =>
 (bif (decide (n1643 < n1645)) then
 let h1646 := r1642.2.bump 2
 (h1646.ld (.n (h1623.next + 1)) 5).bind fun w1647 =>
 (AV.asSl w1647).bind fun l1648 =>
 let h1649 := h1646.put r1642.2.next (.cells true 3 [(.i .i64 (-1))])
 (h1649.rdSl (.loc (.n r1642.2.next) 0 1) 1 1).bind fun new1650 =>
 (bif (Nat.ble ((l1648.2 + 1) * 9) 35184372088832) then
 (h1649.appSl (r1642.2.next + 1) 3 1 l1648.1 l1648.2 1 new1650).bind fun r1651 =>
 (AV.asSl r1651.1).bind fun l1652 =>
 (r1651.2.st (.n (h1623.next + 1)) 5 [L l1652]).bind fun h1653 =>
 some (Sum.inl ([(.i .i64 (IntKind.i64.wrap (n1643 + 1)))], h1653))
 else none)
 else some (Sum.inr ([], r1642.2))))
def haymowref33_Alloc_p (w : Words O) (k74 k141 k29 k142 k49 k143 k144 : Sm O) : Sm O := fun xs h =>
 bif Nat.beq xs.length 4 then
 (AV.asAgg 264 (xs.getD 0 .u)).bind fun c0 =>
 w.U2 c0 fun n1 n2 n3 n4 n5 l6 l7 n8 l9 l10 n11 l12 n13 l14 l15 n16 l17 n18 n19 n20 n21 n22 n23 n24 n25 n26 n27 n28 n29 n30 n31 n32 n33 l34 n35 n36 n37 n38 n39 n40 n41 n42 n43 n44 n45 n46 n47 n48 n49 n50 n51 n52 n53 n54 n55 n56 n57 n58 n59 n60 n61 n62 n63 n64 n65 n66 n67 n68 n69 n70 n71 n72 n73 n74 n75 n76 n77 n78 n79 n80 n81 n82 n83 n84 n85 n86 n87 n88 n89 n90 n91 n92 n93 n94 n95 n96 n97 n98 n99 n100 n101 n102 n103 n104 n105 n106 n107 n108 n109 n110 n111 n112 n113 n114 n115 n116 n117 n118 n119 n120 n121 n122 n123 n124 n125 n126 n127 n128 n129 n130 n131 n132 n133 n134 n135 n136 n137 n138 n139 n140 n141 n142 n143 n144 n145 n146 n147 n148 n149 n150 n151 n152 n153 n154 n155 n156 n157 n158 n159 n160 n161 n162 n163 n164 n165 n166 n167 n168 n169 n170 n171 n172 n173 n174 n175 n176 n177 n178 n179 n180 n181 n182 n183 n184 n185 n186 n187 n188 n189 n190 n191 n192 n193 n194 n195 n196 n197 n198 n199 n200 n201 n202 n203 n204 n205 n206 n207 n208 n209 n210 n211 n212 n213 n214 n215 n216 n217 n218 n219 n220 n221 n222 n223 n224 n225 n226 n227 n228 n229 n230 n231 n232 n233 n234 n235 n236 n237 n238 n239 n240 n241 n242 n243 n244 n245 n246 n247 n248 n249 n250 n251 n252 n253 n254 n255 n256 n257 n258 l259 n260 n261 n262 n263 n264 =>
 (AV.asI .i64 (xs.getD 1 .u)).bind fun n265 =>
 (AV.asAgg 2 (xs.getD 2 .u)).bind fun c266 =>
 I6 c266 0 fun n267 => I6 c266 1 fun n268 => (AV.asI .i64 (xs.getD 3 .u)).bind fun n269 =>
 let h270 := h.bump 3
 let h271 := h270.put h.next (.cells true 62 (P8 n1 n2 n3 n4 n5 l6 l7 n8 l9 l10 n11 l12 n13 l14 l15 n16 l17 n18 n19 n20 n21 n22 n23 n24 n25 n26 n27 n28 n29 n30 n31 n32 n33 l34 n35 n36 n37 n38 n39 n40 n41 n42 n43 n44 n45 n46 n47 n48 n49 n50 n51 n52 n53 n54 n55 n56 n57 n58 n59 n60 n61 n62 n63 n64 n65 n66 n67 n68 n69 n70 n71 n72 n73 n74 n75 n76 n77 n78 n79 n80 n81 n82 n83 n84 n85 n86 n87 n88 n89 n90 n91 n92 n93 n94 n95 n96 n97 n98 n99 n100 n101 n102 n103 n104 n105 n106 n107 n108 n109 n110 n111 n112 n113 n114 n115 n116 n117 n118 n119 n120 n121 n122 n123 n124 n125 n126 n127 n128 n129 n130 n131 n132 n133 n134 n135 n136 n137 n138 n139 n140 n141 n142 n143 n144 n145 n146 n147 n148 n149 n150 n151 n152 n153 n154 n155 n156 n157 n158 n159 n160 n161 n162 n163 n164 n165 n166 n167 n168 n169 n170 n171 n172 n173 n174 n175 n176 n177 n178 n179 n180 n181 n182 n183 n184 n185 n186 n187 n188 n189 n190 n191 n192 n193 n194 n195 n196 n197 n198 n199 n200 n201 n202 n203 n204 n205 n206 n207 n208 n209 n210 n211 n212 n213 n214 n215 n216 n217 n218 n219 n220 n221 n222 n223 n224 n225 n226 n227 n228 n229 n230 n231 n232 n233 n234 n235 n236 n237 n238 n239 n240 n241 n242 n243 n244 n245 n246 n247 n248 n249 n250 n251 n252 n253 n254 n255 n256 n257 n258 l259 n260 n261 n262 n263 n264))
 let h272 := h271.put (h.next + 1) (.cells true 70 [J n267, J n268])
 let h273 := h272.put ((h.next + 1) + 1) (.cells true 62 P7)
 (h273.ld (.n h.next) 32).bind fun w274 =>
 (AV.asI .i64 w274).bind fun n275 =>
 (h273.st (.n h.next) 32 [(.i .i64 (IntKind.i64.wrap (n275 + 1)))]).bind fun h276 =>
 ((bif ((decide (n269 < 0)) == false) then
 (h276.ld (.n h.next) 3).bind fun w277 =>
 (AV.asI .i64 w277).bind fun n278 =>
 some ([(.b (decide (n269 ≥ n278)))], h276)
 else some ([(.b true)], h276)) : Option (List AV × AH O)).bind fun r279 =>
 (AV.asB (r279.1.getD 0 .u)).bind fun b280 =>
 (bif b280 then
 none
 else (r279.2.ld (.n (h.next + 1)) 0).bind fun w281 =>
 (AV.asI .i64 w281).bind fun n282 =>
 (r279.2.ld (.n (h.next + 1)) 1).bind fun w283 =>
 (AV.asI .i64 w283).bind fun n284 =>
 (k74 [(.agg [J n282, J n284])] r279.2).bind fun r285 =>
 (AV.asB r285.1).bind fun b286 =>
 (bif (!b286) then
 none
 else w.W2 r285.2 (.n h.next) 0 fun n288 n290 n292 n294 n296 l298 l300 n302 l304 l306 n308 l310 n312 l314 l316 n318 l320 n322 n324 n326 n328 n330 n332 n334 n336 n338 n340 n342 n344 n346 n348 n350 n352 l354 n356 n358 n360 n362 n364 n366 n368 n370 n372 n374 n376 n378 n380 n382 n384 n386 n388 n390 n392 n394 n396 n398 n400 n402 n404 n406 n408 n410 n412 n414 n416 n418 n420 n422 n424 n426 n428 n430 n432 n434 n436 n438 n440 n442 n444 n446 n448 n450 n452 n454 n456 n458 n460 n462 n464 n466 n468 n470 n472 n474 n476 n478 n480 n482 n484 n486 n488 n490 n492 n494 n496 n498 n500 n502 n504 n506 n508 n510 n512 n514 n516 n518 n520 n522 n524 n526 n528 n530 n532 n534 n536 n538 n540 n542 n544 n546 n548 n550 n552 n554 n556 n558 n560 n562 n564 n566 n568 n570 n572 n574 n576 n578 n580 n582 n584 n586 n588 n590 n592 n594 n596 n598 n600 n602 n604 n606 n608 n610 n612 n614 n616 n618 n620 n622 n624 n626 n628 n630 n632 n634 n636 n638 n640 n642 n644 n646 n648 n650 n652 n654 n656 n658 n660 n662 n664 n666 n668 n670 n672 n674 n676 n678 n680 n682 n684 n686 n688 n690 n692 n694 n696 n698 n700 n702 n704 n706 n708 n710 n712 n714 n716 n718 n720 n722 n724 n726 n728 n730 n732 n734 n736 n738 n740 n742 n744 n746 n748 n750 n752 n754 n756 n758 n760 n762 n764 n766 n768 n770 n772 n774 n776 n778 n780 n782 n784 n786 n788 n790 n792 n794 n796 n798 n800 n802 l804 n806 n808 n810 n812 n814 =>
 (k141 [(.agg (P8 n288 n290 n292 n294 n296 l298 l300 n302 l304 l306 n308 l310 n312 l314 l316 n318 l320 n322 n324 n326 n328 n330 n332 n334 n336 n338 n340 n342 n344 n346 n348 n350 n352 l354 n356 n358 n360 n362 n364 n366 n368 n370 n372 n374 n376 n378 n380 n382 n384 n386 n388 n390 n392 n394 n396 n398 n400 n402 n404 n406 n408 n410 n412 n414 n416 n418 n420 n422 n424 n426 n428 n430 n432 n434 n436 n438 n440 n442 n444 n446 n448 n450 n452 n454 n456 n458 n460 n462 n464 n466 n468 n470 n472 n474 n476 n478 n480 n482 n484 n486 n488 n490 n492 n494 n496 n498 n500 n502 n504 n506 n508 n510 n512 n514 n516 n518 n520 n522 n524 n526 n528 n530 n532 n534 n536 n538 n540 n542 n544 n546 n548 n550 n552 n554 n556 n558 n560 n562 n564 n566 n568 n570 n572 n574 n576 n578 n580 n582 n584 n586 n588 n590 n592 n594 n596 n598 n600 n602 n604 n606 n608 n610 n612 n614 n616 n618 n620 n622 n624 n626 n628 n630 n632 n634 n636 n638 n640 n642 n644 n646 n648 n650 n652 n654 n656 n658 n660 n662 n664 n666 n668 n670 n672 n674 n676 n678 n680 n682 n684 n686 n688 n690 n692 n694 n696 n698 n700 n702 n704 n706 n708 n710 n712 n714 n716 n718 n720 n722 n724 n726 n728 n730 n732 n734 n736 n738 n740 n742 n744 n746 n748 n750 n752 n754 n756 n758 n760 n762 n764 n766 n768 n770 n772 n774 n776 n778 n780 n782 n784 n786 n788 n790 n792 n794 n796 n798 n800 n802 l804 n806 n808 n810 n812 n814)), J n265] r285.2).bind fun r815 =>
 (AV.asTup 2 r815.1).bind fun c816 =>
 I6 c816 0 fun n817 => I6 c816 1 fun n818 => (bif ((n818 : Int) != 0) then
 none
 else (r815.2.ld (.n (h.next + 1)) 0).bind fun w819 =>
 (AV.asI .i64 w819).bind fun n820 =>
 (r815.2.ld (.n (h.next + 1)) 1).bind fun w821 =>
 (AV.asI .i64 w821).bind fun n822 =>
 (r815.2.ld (.n h.next) 2).bind fun w823 =>
 (AV.asI .i64 w823).bind fun n824 =>
 (k29 [(.agg [J n820, J n822]), J n824] r815.2).bind fun r825 =>
 (AV.asI .i64 r825.1).bind fun n826 =>
 w.W2 r825.2 (.n h.next) 0 fun n828 n830 n832 n834 n836 l838 l840 n842 l844 l846 n848 l850 n852 l854 l856 n858 l860 n862 n864 n866 n868 n870 n872 n874 n876 n878 n880 n882 n884 n886 n888 n890 n892 l894 n896 n898 n900 n902 n904 n906 n908 n910 n912 n914 n916 n918 n920 n922 n924 n926 n928 n930 n932 n934 n936 n938 n940 n942 n944 n946 n948 n950 n952 n954 n956 n958 n960 n962 n964 n966 n968 n970 n972 n974 n976 n978 n980 n982 n984 n986 n988 n990 n992 n994 n996 n998 n1000 n1002 n1004 n1006 n1008 n1010 n1012 n1014 n1016 n1018 n1020 n1022 n1024 n1026 n1028 n1030 n1032 n1034 n1036 n1038 n1040 n1042 n1044 n1046 n1048 n1050 n1052 n1054 n1056 n1058 n1060 n1062 n1064 n1066 n1068 n1070 n1072 n1074 n1076 n1078 n1080 n1082 n1084 n1086 n1088 n1090 n1092 n1094 n1096 n1098 n1100 n1102 n1104 n1106 n1108 n1110 n1112 n1114 n1116 n1118 n1120 n1122 n1124 n1126 n1128 n1130 n1132 n1134 n1136 n1138 n1140 n1142 n1144 n1146 n1148 n1150 n1152 n1154 n1156 n1158 n1160 n1162 n1164 n1166 n1168 n1170 n1172 n1174 n1176 n1178 n1180 n1182 n1184 n1186 n1188 n1190 n1192 n1194 n1196 n1198 n1200 n1202 n1204 n1206 n1208 n1210 n1212 n1214 n1216 n1218 n1220 n1222 n1224 n1226 n1228 n1230 n1232 n1234 n1236 n1238 n1240 n1242 n1244 n1246 n1248 n1250 n1252 n1254 n1256 n1258 n1260 n1262 n1264 n1266 n1268 n1270 n1272 n1274 n1276 n1278 n1280 n1282 n1284 n1286 n1288 n1290 n1292 n1294 n1296 n1298 n1300 n1302 n1304 n1306 n1308 n1310 n1312 n1314 n1316 n1318 n1320 n1322 n1324 n1326 n1328 n1330 n1332 n1334 n1336 n1338 n1340 n1342 l1344 n1346 n1348 n1350 n1352 n1354 =>
 (k142 [(.agg (P8 n828 n830 n832 n834 n836 l838 l840 n842 l844 l846 n848 l850 n852 l854 l856 n858 l860 n862 n864 n866 n868 n870 n872 n874 n876 n878 n880 n882 n884 n886 n888 n890 n892 l894 n896 n898 n900 n902 n904 n906 n908 n910 n912 n914 n916 n918 n920 n922 n924 n926 n928 n930 n932 n934 n936 n938 n940 n942 n944 n946 n948 n950 n952 n954 n956 n958 n960 n962 n964 n966 n968 n970 n972 n974 n976 n978 n980 n982 n984 n986 n988 n990 n992 n994 n996 n998 n1000 n1002 n1004 n1006 n1008 n1010 n1012 n1014 n1016 n1018 n1020 n1022 n1024 n1026 n1028 n1030 n1032 n1034 n1036 n1038 n1040 n1042 n1044 n1046 n1048 n1050 n1052 n1054 n1056 n1058 n1060 n1062 n1064 n1066 n1068 n1070 n1072 n1074 n1076 n1078 n1080 n1082 n1084 n1086 n1088 n1090 n1092 n1094 n1096 n1098 n1100 n1102 n1104 n1106 n1108 n1110 n1112 n1114 n1116 n1118 n1120 n1122 n1124 n1126 n1128 n1130 n1132 n1134 n1136 n1138 n1140 n1142 n1144 n1146 n1148 n1150 n1152 n1154 n1156 n1158 n1160 n1162 n1164 n1166 n1168 n1170 n1172 n1174 n1176 n1178 n1180 n1182 n1184 n1186 n1188 n1190 n1192 n1194 n1196 n1198 n1200 n1202 n1204 n1206 n1208 n1210 n1212 n1214 n1216 n1218 n1220 n1222 n1224 n1226 n1228 n1230 n1232 n1234 n1236 n1238 n1240 n1242 n1244 n1246 n1248 n1250 n1252 n1254 n1256 n1258 n1260 n1262 n1264 n1266 n1268 n1270 n1272 n1274 n1276 n1278 n1280 n1282 n1284 n1286 n1288 n1290 n1292 n1294 n1296 n1298 n1300 n1302 n1304 n1306 n1308 n1310 n1312 n1314 n1316 n1318 n1320 n1322 n1324 n1326 n1328 n1330 n1332 n1334 n1336 n1338 n1340 n1342 l1344 n1346 n1348 n1350 n1352 n1354)), J n826] r825.2).bind fun r1355 =>
 (AV.asTup 2 r1355.1).bind fun c1356 =>
 (AV.asAgg 264 (c1356.getD 0 .u)).bind fun c1357 =>
 w.U2 c1357 fun n1358 n1359 n1360 n1361 n1362 l1363 l1364 n1365 l1366 l1367 n1368 l1369 n1370 l1371 l1372 n1373 l1374 n1375 n1376 n1377 n1378 n1379 n1380 n1381 n1382 n1383 n1384 n1385 n1386 n1387 n1388 n1389 n1390 l1391 n1392 n1393 n1394 n1395 n1396 n1397 n1398 n1399 n1400 n1401 n1402 n1403 n1404 n1405 n1406 n1407 n1408 n1409 n1410 n1411 n1412 n1413 n1414 n1415 n1416 n1417 n1418 n1419 n1420 n1421 n1422 n1423 n1424 n1425 n1426 n1427 n1428 n1429 n1430 n1431 n1432 n1433 n1434 n1435 n1436 n1437 n1438 n1439 n1440 n1441 n1442 n1443 n1444 n1445 n1446 n1447 n1448 n1449 n1450 n1451 n1452 n1453 n1454 n1455 n1456 n1457 n1458 n1459 n1460 n1461 n1462 n1463 n1464 n1465 n1466 n1467 n1468 n1469 n1470 n1471 n1472 n1473 n1474 n1475 n1476 n1477 n1478 n1479 n1480 n1481 n1482 n1483 n1484 n1485 n1486 n1487 n1488 n1489 n1490 n1491 n1492 n1493 n1494 n1495 n1496 n1497 n1498 n1499 n1500 n1501 n1502 n1503 n1504 n1505 n1506 n1507 n1508 n1509 n1510 n1511 n1512 n1513 n1514 n1515 n1516 n1517 n1518 n1519 n1520 n1521 n1522 n1523 n1524 n1525 n1526 n1527 n1528 n1529 n1530 n1531 n1532 n1533 n1534 n1535 n1536 n1537 n1538 n1539 n1540 n1541 n1542 n1543 n1544 n1545 n1546 n1547 n1548 n1549 n1550 n1551 n1552 n1553 n1554 n1555 n1556 n1557 n1558 n1559 n1560 n1561 n1562 n1563 n1564 n1565 n1566 n1567 n1568 n1569 n1570 n1571 n1572 n1573 n1574 n1575 n1576 n1577 n1578 n1579 n1580 n1581 n1582 n1583 n1584 n1585 n1586 n1587 n1588 n1589 n1590 n1591 n1592 n1593 n1594 n1595 n1596 n1597 n1598 n1599 n1600 n1601 n1602 n1603 n1604 n1605 n1606 n1607 n1608 n1609 n1610 n1611 n1612 n1613 n1614 n1615 l1616 n1617 n1618 n1619 n1620 n1621 =>
 (AV.asB (c1356.getD 1 .u)).bind fun b1622 =>
 (r1355.2.st (.n h.next) 0 (P8 n1358 n1359 n1360 n1361 n1362 l1363 l1364 n1365 l1366 l1367 n1368 l1369 n1370 l1371 l1372 n1373 l1374 n1375 n1376 n1377 n1378 n1379 n1380 n1381 n1382 n1383 n1384 n1385 n1386 n1387 n1388 n1389 n1390 l1391 n1392 n1393 n1394 n1395 n1396 n1397 n1398 n1399 n1400 n1401 n1402 n1403 n1404 n1405 n1406 n1407 n1408 n1409 n1410 n1411 n1412 n1413 n1414 n1415 n1416 n1417 n1418 n1419 n1420 n1421 n1422 n1423 n1424 n1425 n1426 n1427 n1428 n1429 n1430 n1431 n1432 n1433 n1434 n1435 n1436 n1437 n1438 n1439 n1440 n1441 n1442 n1443 n1444 n1445 n1446 n1447 n1448 n1449 n1450 n1451 n1452 n1453 n1454 n1455 n1456 n1457 n1458 n1459 n1460 n1461 n1462 n1463 n1464 n1465 n1466 n1467 n1468 n1469 n1470 n1471 n1472 n1473 n1474 n1475 n1476 n1477 n1478 n1479 n1480 n1481 n1482 n1483 n1484 n1485 n1486 n1487 n1488 n1489 n1490 n1491 n1492 n1493 n1494 n1495 n1496 n1497 n1498 n1499 n1500 n1501 n1502 n1503 n1504 n1505 n1506 n1507 n1508 n1509 n1510 n1511 n1512 n1513 n1514 n1515 n1516 n1517 n1518 n1519 n1520 n1521 n1522 n1523 n1524 n1525 n1526 n1527 n1528 n1529 n1530 n1531 n1532 n1533 n1534 n1535 n1536 n1537 n1538 n1539 n1540 n1541 n1542 n1543 n1544 n1545 n1546 n1547 n1548 n1549 n1550 n1551 n1552 n1553 n1554 n1555 n1556 n1557 n1558 n1559 n1560 n1561 n1562 n1563 n1564 n1565 n1566 n1567 n1568 n1569 n1570 n1571 n1572 n1573 n1574 n1575 n1576 n1577 n1578 n1579 n1580 n1581 n1582 n1583 n1584 n1585 n1586 n1587 n1588 n1589 n1590 n1591 n1592 n1593 n1594 n1595 n1596 n1597 n1598 n1599 n1600 n1601 n1602 n1603 n1604 n1605 n1606 n1607 n1608 n1609 n1610 n1611 n1612 n1613 n1614 n1615 l1616 n1617 n1618 n1619 n1620 n1621)).bind fun h1623 =>
 (bif (!b1622) then
 none
 else let h1624 := h1623.bump 2
 (h1624.ld (.n (h.next + 1)) 0).bind fun w1625 =>
 (AV.asI .i64 w1625).bind fun n1626 =>
 (h1624.ld (.n (h.next + 1)) 1).bind fun w1627 =>
 (AV.asI .i64 w1627).bind fun n1628 =>
 (h1624.ld (.n (h.next + 1)) 0).bind fun w1629 =>
 (AV.asI .i64 w1629).bind fun n1630 =>
 (h1624.ld (.n (h.next + 1)) 1).bind fun w1631 =>
 (AV.asI .i64 w1631).bind fun n1632 =>
 (h1624.ld (.n h.next) 2).bind fun w1633 =>
 (AV.asI .i64 w1633).bind fun n1634 =>
 (h1624.ld (.n (h.next + 1)) 1).bind fun w1635 =>
 (AV.asI .i64 w1635).bind fun n1636 =>
 (k49 [(.agg [J n1630, J n1632])] h1624).bind fun r1637 =>
 (AV.asI .i64 r1637.1).bind fun n1638 =>
 (chkE (r1637.2.ld (.n (h.next + 1)) 0) (some (.i .i64 n1626))).bind fun _ =>
 (chkE (r1637.2.ld (.n (h.next + 1)) 1) (some (.i .i64 n1628))).bind fun _ =>
 (chkE (r1637.2.ld (.n h.next) 2) (some (.i .i64 n1634))).bind fun _ =>
 (chkE (r1637.2.ld (.n (h.next + 1)) 1) (some (.i .i64 n1636))).bind fun _ =>
 (bif ((((decide ((0 : Int) ≤ n1636)) && (decide (n1636 ≤ n1636))) && (decide ((n1636 * 8) ≤ 140737488355328))) && (decide (n1636 ≤ 140737488355328))) then
 let h1639 := r1637.2.put h1623.next (.cells true 90 ((List.replicate n1636.toNat [(.i .u64 0)]).flatten))
 let h1640 := h1639.put (h1623.next + 1) (.cells true 269 [J 0, J 0, J 0, J 0, (.b false), N, N, (.b false)])
 (h1640.st (.n (h1623.next + 1)) 0 [J n1626, J n1628, J n269, J 0, (.b (decide (n1638 > n1634))), N, (.sl (.loc (.n h1623.next) 0 1) n1636.toNat), (.b false)]).bind fun h1641 =>
 (loopF (S := List AV × AH O) (T := List AV × AH O) (haymowref33_Alloc_L1 w h h1623) ([J 0], h1641)).bind fun r1654 =>
 let h1655 := r1654.2.bump 4
 (h1655.ld (.n h.next) 5).bind fun w1656 =>
 (AV.asSl w1656).bind fun l1657 =>
 (h1655.ld (.n (h1623.next + 1)) 0).bind fun w1658 =>
 (AV.asI .i64 w1658).bind fun n1659 =>
 (h1655.ld (.n (h1623.next + 1)) 1).bind fun w1660 =>
 (AV.asI .i64 w1660).bind fun n1661 =>
 (h1655.ld (.n (h1623.next + 1)) 2).bind fun w1662 =>
 (AV.asI .i64 w1662).bind fun n1663 =>
 (h1655.ld (.n (h1623.next + 1)) 3).bind fun w1664 =>
 (AV.asI .i64 w1664).bind fun n1665 =>
 (h1655.ld (.n (h1623.next + 1)) 4).bind fun w1666 =>
 (AV.asB w1666).bind fun b1667 =>
 (h1655.ld (.n (h1623.next + 1)) 5).bind fun w1668 =>
 (AV.asSl w1668).bind fun l1669 =>
 (h1655.ld (.n (h1623.next + 1)) 6).bind fun w1670 =>
 (AV.asSl w1670).bind fun l1671 =>
 (h1655.ld (.n (h1623.next + 1)) 7).bind fun w1672 =>
 (AV.asB w1672).bind fun b1673 =>
 let h1674 := h1655.put r1654.2.next (.cells true 269 [])
 (h1674.rdSl l1657.1 l1657.2 8).bind fun new1675 =>
 (bif (Nat.ble ((0 + l1657.2) * 97) 35184372088832) then
 (h1674.appSl (r1654.2.next + 1) 269 8 (.loc (.n r1654.2.next) 0 8) 0 l1657.2 new1675).bind fun r1676 =>
 (AV.asSl r1676.1).bind fun l1677 =>
 (chkE (r1676.2.ld (.n (h1623.next + 1)) 0) (some (.i .i64 n1659))).bind fun _ =>
 (chkE (r1676.2.ld (.n (h1623.next + 1)) 1) (some (.i .i64 n1661))).bind fun _ =>
 (chkE (r1676.2.ld (.n (h1623.next + 1)) 2) (some (.i .i64 n1663))).bind fun _ =>
 (chkE (r1676.2.ld (.n (h1623.next + 1)) 3) (some (.i .i64 n1665))).bind fun _ =>
 (chkE (r1676.2.ld (.n (h1623.next + 1)) 4) (some (.b b1667))).bind fun _ =>
 (chkE (r1676.2.ld (.n (h1623.next + 1)) 5) (some (.sl l1669.1 l1669.2))).bind fun _ =>
 (chkE (r1676.2.ld (.n (h1623.next + 1)) 6) (some (.sl l1671.1 l1671.2))).bind fun _ =>
 (chkE (r1676.2.ld (.n (h1623.next + 1)) 7) (some (.b b1673))).bind fun _ =>
 let h1678 := r1676.2.put ((r1654.2.next + 1) + 1) (.cells true 269 [J n1659, J n1661, J n1663, J n1665, (.b b1667), L l1669, L l1671, (.b b1673)])
 (h1678.rdSl (.loc (.n ((r1654.2.next + 1) + 1)) 0 8) 1 8).bind fun new1679 =>
 (bif (Nat.ble ((l1677.2 + 1) * 97) 35184372088832) then
 (h1678.appSl (((r1654.2.next + 1) + 1) + 1) 269 8 l1677.1 l1677.2 1 new1679).bind fun r1680 =>
 (AV.asSl r1680.1).bind fun l1681 =>
 (r1680.2.st (.n h.next) 5 [L l1681]).bind fun h1682 =>
 (h1682.ld (.n h.next) 25).bind fun w1683 =>
 (AV.asI .i64 w1683).bind fun n1684 =>
 (h1682.st (.n h.next) 25 [(.i .i64 (IntKind.i64.wrap (n1684 + n826)))]).bind fun h1685 =>
 (h1685.ld (.n h.next) 33).bind fun w1686 =>
 (AV.asSl w1686).bind fun l1687 =>
 (h1685.ld (.n (h.next + 1)) 0).bind fun w1688 =>
 (AV.asI .i64 w1688).bind fun n1689 =>
 (h1685.ld (.n (h.next + 1)) 1).bind fun w1690 =>
 (AV.asI .i64 w1690).bind fun n1691 =>
 (k49 [(.agg [J n1689, J n1691])] h1685).bind fun r1692 =>
 (AV.asI .i64 r1692.1).bind fun n1693 =>
 (chkE (r1692.2.ld (.n h.next) 33) (some (.sl l1687.1 l1687.2))).bind fun _ =>
 (k143 [L l1687, J n269, J n1693] r1692.2).bind fun r1694 =>
 (AV.asSl r1694.1).bind fun l1695 =>
 (r1694.2.st (.n h.next) 33 [L l1695]).bind fun h1696 =>
 (bif ((decide ((0 : Int) ≤ n269)) && (decide (n269 < 32))) then
 (h1696.ld (.n h.next) (34 + (n269.toNat * 7))).bind fun w1697 =>
 (AV.asI .i64 w1697).bind fun n1698 =>
 (bif ((decide ((0 : Int) ≤ n269)) && (decide (n269 < 32))) then
 (h1696.st (.n h.next) (34 + (n269.toNat * 7)) [(.i .i64 (IntKind.i64.wrap (n1698 + 1)))]).bind fun h1699 =>
 w.W2 h1699 (.n h.next) 0 fun n1701 n1703 n1705 n1707 n1709 l1711 l1713 n1715 l1717 l1719 n1721 l1723 n1725 l1727 l1729 n1731 l1733 n1735 n1737 n1739 n1741 n1743 n1745 n1747 n1749 n1751 n1753 n1755 n1757 n1759 n1761 n1763 n1765 l1767 n1769 n1771 n1773 n1775 n1777 n1779 n1781 n1783 n1785 n1787 n1789 n1791 n1793 n1795 n1797 n1799 n1801 n1803 n1805 n1807 n1809 n1811 n1813 n1815 n1817 n1819 n1821 n1823 n1825 n1827 n1829 n1831 n1833 n1835 n1837 n1839 n1841 n1843 n1845 n1847 n1849 n1851 n1853 n1855 n1857 n1859 n1861 n1863 n1865 n1867 n1869 n1871 n1873 n1875 n1877 n1879 n1881 n1883 n1885 n1887 n1889 n1891 n1893 n1895 n1897 n1899 n1901 n1903 n1905 n1907 n1909 n1911 n1913 n1915 n1917 n1919 n1921 n1923 n1925 n1927 n1929 n1931 n1933 n1935 n1937 n1939 n1941 n1943 n1945 n1947 n1949 n1951 n1953 n1955 n1957 n1959 n1961 n1963 n1965 n1967 n1969 n1971 n1973 n1975 n1977 n1979 n1981 n1983 n1985 n1987 n1989 n1991 n1993 n1995 n1997 n1999 n2001 n2003 n2005 n2007 n2009 n2011 n2013 n2015 n2017 n2019 n2021 n2023 n2025 n2027 n2029 n2031 n2033 n2035 n2037 n2039 n2041 n2043 n2045 n2047 n2049 n2051 n2053 n2055 n2057 n2059 n2061 n2063 n2065 n2067 n2069 n2071 n2073 n2075 n2077 n2079 n2081 n2083 n2085 n2087 n2089 n2091 n2093 n2095 n2097 n2099 n2101 n2103 n2105 n2107 n2109 n2111 n2113 n2115 n2117 n2119 n2121 n2123 n2125 n2127 n2129 n2131 n2133 n2135 n2137 n2139 n2141 n2143 n2145 n2147 n2149 n2151 n2153 n2155 n2157 n2159 n2161 n2163 n2165 n2167 n2169 n2171 n2173 n2175 n2177 n2179 n2181 n2183 n2185 n2187 n2189 n2191 n2193 n2195 n2197 n2199 n2201 n2203 n2205 n2207 n2209 n2211 n2213 n2215 l2217 n2219 n2221 n2223 n2225 n2227 =>
 (h1699.ld (.n h.next) 5).bind fun w2228 =>
 (AV.asSl w2228).bind fun l2229 =>
 (k144 [(.agg (P8 n1701 n1703 n1705 n1707 n1709 l1711 l1713 n1715 l1717 l1719 n1721 l1723 n1725 l1727 l1729 n1731 l1733 n1735 n1737 n1739 n1741 n1743 n1745 n1747 n1749 n1751 n1753 n1755 n1757 n1759 n1761 n1763 n1765 l1767 n1769 n1771 n1773 n1775 n1777 n1779 n1781 n1783 n1785 n1787 n1789 n1791 n1793 n1795 n1797 n1799 n1801 n1803 n1805 n1807 n1809 n1811 n1813 n1815 n1817 n1819 n1821 n1823 n1825 n1827 n1829 n1831 n1833 n1835 n1837 n1839 n1841 n1843 n1845 n1847 n1849 n1851 n1853 n1855 n1857 n1859 n1861 n1863 n1865 n1867 n1869 n1871 n1873 n1875 n1877 n1879 n1881 n1883 n1885 n1887 n1889 n1891 n1893 n1895 n1897 n1899 n1901 n1903 n1905 n1907 n1909 n1911 n1913 n1915 n1917 n1919 n1921 n1923 n1925 n1927 n1929 n1931 n1933 n1935 n1937 n1939 n1941 n1943 n1945 n1947 n1949 n1951 n1953 n1955 n1957 n1959 n1961 n1963 n1965 n1967 n1969 n1971 n1973 n1975 n1977 n1979 n1981 n1983 n1985 n1987 n1989 n1991 n1993 n1995 n1997 n1999 n2001 n2003 n2005 n2007 n2009 n2011 n2013 n2015 n2017 n2019 n2021 n2023 n2025 n2027 n2029 n2031 n2033 n2035 n2037 n2039 n2041 n2043 n2045 n2047 n2049 n2051 n2053 n2055 n2057 n2059 n2061 n2063 n2065 n2067 n2069 n2071 n2073 n2075 n2077 n2079 n2081 n2083 n2085 n2087 n2089 n2091 n2093 n2095 n2097 n2099 n2101 n2103 n2105 n2107 n2109 n2111 n2113 n2115 n2117 n2119 n2121 n2123 n2125 n2127 n2129 n2131 n2133 n2135 n2137 n2139 n2141 n2143 n2145 n2147 n2149 n2151 n2153 n2155 n2157 n2159 n2161 n2163 n2165 n2167 n2169 n2171 n2173 n2175 n2177 n2179 n2181 n2183 n2185 n2187 n2189 n2191 n2193 n2195 n2197 n2199 n2201 n2203 n2205 n2207 n2209 n2211 n2213 n2215 l2217 n2219 n2221 n2223 n2225 n2227)), J n265, (.i .i64 (IntKind.i64.wrap ((l2229.2 : Int) - 1)))] h1699).bind fun r2230 =>
 (AV.asTup 2 r2230.1).bind fun c2231 =>
 (AV.asAgg 264 (c2231.getD 0 .u)).bind fun c2232 =>
 w.U2 c2232 fun n2233 n2234 n2235 n2236 n2237 l2238 l2239 n2240 l2241 l2242 n2243 l2244 n2245 l2246 l2247 n2248 l2249 n2250 n2251 n2252 n2253 n2254 n2255 n2256 n2257 n2258 n2259 n2260 n2261 n2262 n2263 n2264 n2265 l2266 n2267 n2268 n2269 n2270 n2271 n2272 n2273 n2274 n2275 n2276 n2277 n2278 n2279 n2280 n2281 n2282 n2283 n2284 n2285 n2286 n2287 n2288 n2289 n2290 n2291 n2292 n2293 n2294 n2295 n2296 n2297 n2298 n2299 n2300 n2301 n2302 n2303 n2304 n2305 n2306 n2307 n2308 n2309 n2310 n2311 n2312 n2313 n2314 n2315 n2316 n2317 n2318 n2319 n2320 n2321 n2322 n2323 n2324 n2325 n2326 n2327 n2328 n2329 n2330 n2331 n2332 n2333 n2334 n2335 n2336 n2337 n2338 n2339 n2340 n2341 n2342 n2343 n2344 n2345 n2346 n2347 n2348 n2349 n2350 n2351 n2352 n2353 n2354 n2355 n2356 n2357 n2358 n2359 n2360 n2361 n2362 n2363 n2364 n2365 n2366 n2367 n2368 n2369 n2370 n2371 n2372 n2373 n2374 n2375 n2376 n2377 n2378 n2379 n2380 n2381 n2382 n2383 n2384 n2385 n2386 n2387 n2388 n2389 n2390 n2391 n2392 n2393 n2394 n2395 n2396 n2397 n2398 n2399 n2400 n2401 n2402 n2403 n2404 n2405 n2406 n2407 n2408 n2409 n2410 n2411 n2412 n2413 n2414 n2415 n2416 n2417 n2418 n2419 n2420 n2421 n2422 n2423 n2424 n2425 n2426 n2427 n2428 n2429 n2430 n2431 n2432 n2433 n2434 n2435 n2436 n2437 n2438 n2439 n2440 n2441 n2442 n2443 n2444 n2445 n2446 n2447 n2448 n2449 n2450 n2451 n2452 n2453 n2454 n2455 n2456 n2457 n2458 n2459 n2460 n2461 n2462 n2463 n2464 n2465 n2466 n2467 n2468 n2469 n2470 n2471 n2472 n2473 n2474 n2475 n2476 n2477 n2478 n2479 n2480 n2481 n2482 n2483 n2484 n2485 n2486 n2487 n2488 n2489 n2490 l2491 n2492 n2493 n2494 n2495 n2496 =>
 I6 c2231 1 fun n2497 => (r2230.2.st (.n ((h.next + 1) + 1)) 0 (P8 n2233 n2234 n2235 n2236 n2237 l2238 l2239 n2240 l2241 l2242 n2243 l2244 n2245 l2246 l2247 n2248 l2249 n2250 n2251 n2252 n2253 n2254 n2255 n2256 n2257 n2258 n2259 n2260 n2261 n2262 n2263 n2264 n2265 l2266 n2267 n2268 n2269 n2270 n2271 n2272 n2273 n2274 n2275 n2276 n2277 n2278 n2279 n2280 n2281 n2282 n2283 n2284 n2285 n2286 n2287 n2288 n2289 n2290 n2291 n2292 n2293 n2294 n2295 n2296 n2297 n2298 n2299 n2300 n2301 n2302 n2303 n2304 n2305 n2306 n2307 n2308 n2309 n2310 n2311 n2312 n2313 n2314 n2315 n2316 n2317 n2318 n2319 n2320 n2321 n2322 n2323 n2324 n2325 n2326 n2327 n2328 n2329 n2330 n2331 n2332 n2333 n2334 n2335 n2336 n2337 n2338 n2339 n2340 n2341 n2342 n2343 n2344 n2345 n2346 n2347 n2348 n2349 n2350 n2351 n2352 n2353 n2354 n2355 n2356 n2357 n2358 n2359 n2360 n2361 n2362 n2363 n2364 n2365 n2366 n2367 n2368 n2369 n2370 n2371 n2372 n2373 n2374 n2375 n2376 n2377 n2378 n2379 n2380 n2381 n2382 n2383 n2384 n2385 n2386 n2387 n2388 n2389 n2390 n2391 n2392 n2393 n2394 n2395 n2396 n2397 n2398 n2399 n2400 n2401 n2402 n2403 n2404 n2405 n2406 n2407 n2408 n2409 n2410 n2411 n2412 n2413 n2414 n2415 n2416 n2417 n2418 n2419 n2420 n2421 n2422 n2423 n2424 n2425 n2426 n2427 n2428 n2429 n2430 n2431 n2432 n2433 n2434 n2435 n2436 n2437 n2438 n2439 n2440 n2441 n2442 n2443 n2444 n2445 n2446 n2447 n2448 n2449 n2450 n2451 n2452 n2453 n2454 n2455 n2456 n2457 n2458 n2459 n2460 n2461 n2462 n2463 n2464 n2465 n2466 n2467 n2468 n2469 n2470 n2471 n2472 n2473 n2474 n2475 n2476 n2477 n2478 n2479 n2480 n2481 n2482 n2483 n2484 n2485 n2486 n2487 n2488 n2489 n2490 l2491 n2492 n2493 n2494 n2495 n2496)).bind fun h2498 =>
 w.W2 h2498 (.n ((h.next + 1) + 1)) 0 fun n2500 n2502 n2504 n2506 n2508 l2510 l2512 n2514 l2516 l2518 n2520 l2522 n2524 l2526 l2528 n2530 l2532 n2534 n2536 n2538 n2540 n2542 n2544 n2546 n2548 n2550 n2552 n2554 n2556 n2558 n2560 n2562 n2564 l2566 n2568 n2570 n2572 n2574 n2576 n2578 n2580 n2582 n2584 n2586 n2588 n2590 n2592 n2594 n2596 n2598 n2600 n2602 n2604 n2606 n2608 n2610 n2612 n2614 n2616 n2618 n2620 n2622 n2624 n2626 n2628 n2630 n2632 n2634 n2636 n2638 n2640 n2642 n2644 n2646 n2648 n2650 n2652 n2654 n2656 n2658 n2660 n2662 n2664 n2666 n2668 n2670 n2672 n2674 n2676 n2678 n2680 n2682 n2684 n2686 n2688 n2690 n2692 n2694 n2696 n2698 n2700 n2702 n2704 n2706 n2708 n2710 n2712 n2714 n2716 n2718 n2720 n2722 n2724 n2726 n2728 n2730 n2732 n2734 n2736 n2738 n2740 n2742 n2744 n2746 n2748 n2750 n2752 n2754 n2756 n2758 n2760 n2762 n2764 n2766 n2768 n2770 n2772 n2774 n2776 n2778 n2780 n2782 n2784 n2786 n2788 n2790 n2792 n2794 n2796 n2798 n2800 n2802 n2804 n2806 n2808 n2810 n2812 n2814 n2816 n2818 n2820 n2822 n2824 n2826 n2828 n2830 n2832 n2834 n2836 n2838 n2840 n2842 n2844 n2846 n2848 n2850 n2852 n2854 n2856 n2858 n2860 n2862 n2864 n2866 n2868 n2870 n2872 n2874 n2876 n2878 n2880 n2882 n2884 n2886 n2888 n2890 n2892 n2894 n2896 n2898 n2900 n2902 n2904 n2906 n2908 n2910 n2912 n2914 n2916 n2918 n2920 n2922 n2924 n2926 n2928 n2930 n2932 n2934 n2936 n2938 n2940 n2942 n2944 n2946 n2948 n2950 n2952 n2954 n2956 n2958 n2960 n2962 n2964 n2966 n2968 n2970 n2972 n2974 n2976 n2978 n2980 n2982 n2984 n2986 n2988 n2990 n2992 n2994 n2996 n2998 n3000 n3002 n3004 n3006 n3008 n3010 n3012 n3014 l3016 n3018 n3020 n3022 n3024 n3026 =>
 some ((.tup [(.agg (P8 n2500 n2502 n2504 n2506 n2508 l2510 l2512 n2514 l2516 l2518 n2520 l2522 n2524 l2526 l2528 n2530 l2532 n2534 n2536 n2538 n2540 n2542 n2544 n2546 n2548 n2550 n2552 n2554 n2556 n2558 n2560 n2562 n2564 l2566 n2568 n2570 n2572 n2574 n2576 n2578 n2580 n2582 n2584 n2586 n2588 n2590 n2592 n2594 n2596 n2598 n2600 n2602 n2604 n2606 n2608 n2610 n2612 n2614 n2616 n2618 n2620 n2622 n2624 n2626 n2628 n2630 n2632 n2634 n2636 n2638 n2640 n2642 n2644 n2646 n2648 n2650 n2652 n2654 n2656 n2658 n2660 n2662 n2664 n2666 n2668 n2670 n2672 n2674 n2676 n2678 n2680 n2682 n2684 n2686 n2688 n2690 n2692 n2694 n2696 n2698 n2700 n2702 n2704 n2706 n2708 n2710 n2712 n2714 n2716 n2718 n2720 n2722 n2724 n2726 n2728 n2730 n2732 n2734 n2736 n2738 n2740 n2742 n2744 n2746 n2748 n2750 n2752 n2754 n2756 n2758 n2760 n2762 n2764 n2766 n2768 n2770 n2772 n2774 n2776 n2778 n2780 n2782 n2784 n2786 n2788 n2790 n2792 n2794 n2796 n2798 n2800 n2802 n2804 n2806 n2808 n2810 n2812 n2814 n2816 n2818 n2820 n2822 n2824 n2826 n2828 n2830 n2832 n2834 n2836 n2838 n2840 n2842 n2844 n2846 n2848 n2850 n2852 n2854 n2856 n2858 n2860 n2862 n2864 n2866 n2868 n2870 n2872 n2874 n2876 n2878 n2880 n2882 n2884 n2886 n2888 n2890 n2892 n2894 n2896 n2898 n2900 n2902 n2904 n2906 n2908 n2910 n2912 n2914 n2916 n2918 n2920 n2922 n2924 n2926 n2928 n2930 n2932 n2934 n2936 n2938 n2940 n2942 n2944 n2946 n2948 n2950 n2952 n2954 n2956 n2958 n2960 n2962 n2964 n2966 n2968 n2970 n2972 n2974 n2976 n2978 n2980 n2982 n2984 n2986 n2988 n2990 n2992 n2994 n2996 n2998 n3000 n3002 n3004 n3006 n3008 n3010 n3012 n3014 l3016 n3018 n3020 n3022 n3024 n3026)), J n2497]), h2498)
 else none)
 else none)
 else none)
 else none)
 else none)))))
 else none
def haymowref33_Alloc_c (k74 k141 k29 k142 k49 k143 k144 : Sm O) : Sm O := haymowref33_Alloc_p fastWords k74 k141 k29 k142 k49 k143 k144
def haymowref33_Alloc : Sm O := haymowref33_Alloc_c haymowref13_Right haymowref33_Get haymowref13_Charge haymowref33_Request haymowref13_Words haymowref29_Add haymowref33_Set
theorem haymowref33_Alloc_ent : Entered Tryz.prog 84 := Tryz.call84
theorem haymowref33_Alloc_run (k74 k141 k29 k142 k49 k143 k144 : Sm O) : run (O := O) Tryz.prog [(74, k74), (141, k141), (29, k29), (142, k142), (49, k49), (143, k143), (144, k144)] Tryz.f84 (.n .z (.n .z (.n (.n (.g [(2, 5, [(28, .one .b)])]) (.n .x .z)) (.n (.n .z (.n .x .z)) (.n (.n .z (.n .z (.n .x .z))) (.n .z (.n .z (.n .z (.n (.n .z (.n .x .z)) (.n (.d [] [0, 1, 2, 4, 5, 6, 9, 10, 3, 7, 8, 11, 12, 13, 14] [0, 0, 0, 4, 0, 16, 48, 124, 255, 0, 512, 1536, 4095, 0, 16383]) (.n (.n .z (.n (.lp false 0 [(15, .one (.i .i64))] [] (.n (.n .z .z) (.n .z .z))) .z)) (.n (.d [] [1, 2, 4, 0, 3, 5, 6, 7, 8] [0, 0, 2, 7, 0, 16, 63, 127, 255]) (.n .z (.n (.d [] [0, 1, 2, 3, 4, 5, 6, 7] [0, 1, 0, 0, 8, 31, 63, 127]) (.n (.d [] [0, 1, 2, 3, 4, 5, 6, 7, 8, 9] [0, 0, 3, 7, 15, 31, 0, 65, 255, 511]) .z))))))))))))))) = haymowref33_Alloc_c k74 k141 k29 k142 k49 k143 k144 :=
 (show run (O := O) Tryz.prog [(74, k74), (141, k141), (29, k29), (142, k142), (49, k49), (143, k143), (144, k144)] Tryz.f84 (.n .z (.n .z (.n (.n (.g [(2, 5, [(28, .one .b)])]) (.n .x .z)) (.n (.n .z (.n .x .z)) (.n (.n .z (.n .z (.n .x .z))) (.n .z (.n .z (.n .z (.n (.n .z (.n .x .z)) (.n (.d [] [0, 1, 2, 4, 5, 6, 9, 10, 3, 7, 8, 11, 12, 13, 14] [0, 0, 0, 4, 0, 16, 48, 124, 255, 0, 512, 1536, 4095, 0, 16383]) (.n (.n .z (.n (.lp false 0 [(15, .one (.i .i64))] [] (.n (.n .z .z) (.n .z .z))) .z)) (.n (.d [] [1, 2, 4, 0, 3, 5, 6, 7, 8] [0, 0, 2, 7, 0, 16, 63, 127, 255]) (.n .z (.n (.d [] [0, 1, 2, 3, 4, 5, 6, 7] [0, 1, 0, 0, 8, 31, 63, 127]) (.n (.d [] [0, 1, 2, 3, 4, 5, 6, 7, 8, 9] [0, 0, 3, 7, 15, 31, 0, 65, 255, 511]) .z))))))))))))))) = haymowref33_Alloc_p slowWords k74 k141 k29 k142 k49 k143 k144 by kernel_rfl).trans (congrArg (fun w => haymowref33_Alloc_p w k74 k141 k29 k142 k49 k143 k144) words_eq)
theorem haymowref33_Alloc_sound : FSound RO Tryz.prog 84 haymowref33_Alloc := sdf (haymowref33_Alloc_run _ _ _ _ _ _ _) (gcons haymowref13_Right_ent haymowref13_Right_sound <| gcons haymowref33_Get_ent haymowref33_Get_sound <| gcons haymowref13_Charge_ent haymowref13_Charge_sound <| gcons haymowref33_Request_ent haymowref33_Request_sound <| gcons haymowref13_Words_ent haymowref13_Words_sound <| gcons haymowref29_Add_ent haymowref29_Add_sound <| gcons haymowref33_Set_ent haymowref33_Set_sound <| gnil) Tryz.func84 (by kernel_rfl)
def heap_Heap__Global_c (k145 k115 : Sm O) : Sm O := fun xs h =>
 bif Nat.beq xs.length 1 then
 (AV.asP (xs.getD 0 .u)).bind fun p0 =>
 let h1 := h.bump 2
 let h2 := h1.put h.next (.cells true 40 [(.p p0)])
 let h3 := h2.put (h.next + 1) (.cells true 3 [J 0])
 (h3.ld (.n h.next) 0).bind fun w4 =>
 (AV.asP w4).bind fun p5 =>
 (k115 [(.p p5), (.fn (some (.func 145, [], [(.p (some ((.n h.next), 0))), (.p (some ((.n (h.next + 1)), 0)))])))] h3).bind fun r6 =>
 (AV.asI .i64 r6.1).bind fun n7 =>
 (r6.2.ld (.n (h.next + 1)) 0).bind fun w8 =>
 (AV.asI .i64 w8).bind fun n9 =>
 (r6.2.st (.n (h.next + 1)) 0 [J n9]).bind fun h10 =>
 (h10.ld (.n (h.next + 1)) 0).bind fun w11 =>
 (AV.asI .i64 w11).bind fun n12 =>
 some ((.tup [J n12, J n7]), h10)
 else none
def heap_Heap__Global : Sm O := heap_Heap__Global_c heap_Heap__Global_1 heap_Heap__call
theorem heap_Heap__Global_ent : Entered Tryz.prog 85 := Tryz.call85
theorem heap_Heap__Global_run (k145 k115 : Sm O) : run (O := O) Tryz.prog [(145, k145), (115, k115)] Tryz.f85 (.n .z (.n .z .z)) = heap_Heap__Global_c k145 k115 := by kernel_rfl
theorem heap_Heap__Global_sound : FSound RO Tryz.prog 85 heap_Heap__Global := sdf (heap_Heap__Global_run _ _) (gcons heap_Heap__Global_1_ent heap_Heap__Global_1_sound <| gcons heap_Heap__call_ent heap_Heap__call_sound <| gnil) Tryz.func85 (by kernel_rfl)
def haymowref10_copied_L1 (l14 : SA × Nat) : List AV × AH O → Option ((List AV × AH O) ⊕ (List AV × AH O)) := (fun r15 =>
 (AV.asI .i64 (r15.1.getD 0 .u)).bind fun n16 =>
 (bif (decide (n16 < (l14.2 : Int))) then
 none
 else some (Sum.inr ([], r15.2))))
def haymowref10_copied_c : Sm O := fun xs h =>
 bif Nat.beq xs.length 1 then
 (AV.asAgg 4 (xs.getD 0 .u)).bind fun c0 =>
 I6 c0 0 fun n1 => Is c0 1 fun l2 => Is c0 2 fun l3 => I6 c0 3 fun n4 => let h5 := h.bump 2
 let h6 := h5.put h.next (.cells true 47 [J n1, L l2, L l3, J n4])
 let h7 := h6.put (h.next + 1) (.cells true 47 [J 0, N, N, J 0])
 let h8 := h7.bump 2
 let h9 := h8.put h7.next (.cells true 337 [])
 (h9.ld (.n h.next) 1).bind fun w10 =>
 (AV.asSl w10).bind fun l11 =>
 (h9.rdSl l11.1 l11.2 3).bind fun new12 =>
 (bif (Nat.ble ((0 + l11.2) * 41) 35184372088832) then
 (h9.appSl (h7.next + 1) 337 3 (.loc (.n h7.next) 0 3) 0 l11.2 new12).bind fun r13 =>
 (AV.asSl r13.1).bind fun l14 =>
 (loopF (S := List AV × AH O) (T := List AV × AH O) (haymowref10_copied_L1 l14) ([J 0], r13.2)).bind fun r17 =>
 (r17.2.st (.n h.next) 1 [L l14]).bind fun h18 =>
 let h19 := h18.bump 2
 let h20 := h19.put h18.next (.cells true 3 [])
 (h20.ld (.n h.next) 2).bind fun w21 =>
 (AV.asSl w21).bind fun l22 =>
 (h20.rdSl l22.1 l22.2 1).bind fun new23 =>
 (bif (Nat.ble ((0 + l22.2) * 9) 35184372088832) then
 (h20.appSl (h18.next + 1) 3 1 (.loc (.n h18.next) 0 1) 0 l22.2 new23).bind fun r24 =>
 (AV.asSl r24.1).bind fun l25 =>
 (r24.2.st (.n h.next) 2 [L l25]).bind fun h26 =>
 (h26.ld (.n h.next) 0).bind fun w27 =>
 (AV.asI .i64 w27).bind fun n28 =>
 (h26.ld (.n h.next) 1).bind fun w29 =>
 (AV.asSl w29).bind fun l30 =>
 (h26.ld (.n h.next) 2).bind fun w31 =>
 (AV.asSl w31).bind fun l32 =>
 (h26.ld (.n h.next) 3).bind fun w33 =>
 (AV.asI .i64 w33).bind fun n34 =>
 (h26.st (.n (h.next + 1)) 0 [J n28, L l30, L l32, J n34]).bind fun h35 =>
 (h35.ld (.n (h.next + 1)) 0).bind fun w36 =>
 (AV.asI .i64 w36).bind fun n37 =>
 (h35.ld (.n (h.next + 1)) 1).bind fun w38 =>
 (AV.asSl w38).bind fun l39 =>
 (h35.ld (.n (h.next + 1)) 2).bind fun w40 =>
 (AV.asSl w40).bind fun l41 =>
 (h35.ld (.n (h.next + 1)) 3).bind fun w42 =>
 (AV.asI .i64 w42).bind fun n43 =>
 some ((.agg [J n37, L l39, L l41, J n43]), h35)
 else none)
 else none)
 else none
def haymowref10_copied : Sm O := haymowref10_copied_c
theorem haymowref10_copied_ent : Entered Tryz.prog 284 := Tryz.call284
theorem haymowref10_copied_run : run (O := O) Tryz.prog [] Tryz.f284 (.n .z (.n .z (.n (.n .z (.n (.lp false 0 [(4, .one (.i .i64))] [] (.n (.n .z (.n .x .z)) (.n .z .z))) .z)) (.n .z (.n .z .z))))) = haymowref10_copied_c  := by kernel_rfl
theorem haymowref10_copied_sound : FSound RO Tryz.prog 284 haymowref10_copied := sdf haymowref10_copied_run (gnil) Tryz.func284 (by kernel_rfl)
def haymowref10_Take_c (k284 : Sm O) : Sm O := fun xs h =>
 bif Nat.beq xs.length 1 then
 (AV.asAgg 4 (xs.getD 0 .u)).bind fun c0 =>
 I6 c0 0 fun n1 => Is c0 1 fun l2 => Is c0 2 fun l3 => I6 c0 3 fun n4 => let h5 := h.bump 2
 let h6 := h5.put h.next (.cells true 47 [J n1, L l2, L l3, J n4])
 let h7 := h6.put (h.next + 1) (.cells true 47 [J 0, N, N, J 0])
 (h7.ld (.n h.next) 0).bind fun w8 =>
 (AV.asI .i64 w8).bind fun n9 =>
 (h7.ld (.n h.next) 1).bind fun w10 =>
 (AV.asSl w10).bind fun l11 =>
 (h7.ld (.n h.next) 2).bind fun w12 =>
 (AV.asSl w12).bind fun l13 =>
 (h7.ld (.n h.next) 3).bind fun w14 =>
 (AV.asI .i64 w14).bind fun n15 =>
 (k284 [(.agg [J n9, L l11, L l13, J n15])] h7).bind fun r16 =>
 (AV.asAgg 4 r16.1).bind fun c17 =>
 I6 c17 0 fun n18 => Is c17 1 fun l19 => Is c17 2 fun l20 => I6 c17 3 fun n21 => (r16.2.st (.n h.next) 0 [J n18, L l19, L l20, J n21]).bind fun h22 =>
 (h22.ld (.n h.next) 2).bind fun w23 =>
 (AV.asSl w23).bind fun l24 =>
 (bif (decide ((l24.2 : Int) > 0)) then
 none
 else (h22.ld (.n h.next) 1).bind fun w25 =>
 (AV.asSl w25).bind fun l26 =>
 (h22.ld (.n h.next) 3).bind fun w27 =>
 (AV.asI .i64 w27).bind fun n28 =>
 (bif (((l26.2 : Int) : Int) == n28) then
 (h22.ld (.n h.next) 3).bind fun w29 =>
 (AV.asI .i64 w29).bind fun n30 =>
 let v31 : Int := (if (IntKind.i64.wrap (2 * n30)) > 8 then (IntKind.i64.wrap (2 * n30)) else 8)
 (h22.st (.n h.next) 3 [J v31]).bind fun h32 =>
 let h33 := h32.bump 3
 (h33.ld (.n h.next) 1).bind fun w34 =>
 (AV.asSl w34).bind fun l35 =>
 (h33.ld (.n h.next) 0).bind fun w36 =>
 (AV.asI .i64 w36).bind fun n37 =>
 (bif ((((decide ((0 : Int) ≤ n37)) && (decide (n37 ≤ n37))) && (decide ((n37 * 8) ≤ 140737488355328))) && (decide (n37 ≤ 140737488355328))) then
 let h38 := h33.put h32.next (.cells true 90 ((List.replicate n37.toNat [(.i .u64 0)]).flatten))
 let h39 := h38.put (h32.next + 1) (.cells true 337 [(.b true), J 0, (.sl (.loc (.n h32.next) 0 1) n37.toNat)])
 (h39.rdSl (.loc (.n (h32.next + 1)) 0 3) 1 3).bind fun new40 =>
 (bif (Nat.ble ((l35.2 + 1) * 41) 35184372088832) then
 (h39.appSl ((h32.next + 1) + 1) 337 3 l35.1 l35.2 1 new40).bind fun r41 =>
 (AV.asSl r41.1).bind fun l42 =>
 (r41.2.st (.n h.next) 1 [L l42]).bind fun h43 =>
 (h43.ld (.n h.next) 0).bind fun w44 =>
 (AV.asI .i64 w44).bind fun n45 =>
 (h43.ld (.n h.next) 1).bind fun w46 =>
 (AV.asSl w46).bind fun l47 =>
 (h43.ld (.n h.next) 2).bind fun w48 =>
 (AV.asSl w48).bind fun l49 =>
 (h43.ld (.n h.next) 3).bind fun w50 =>
 (AV.asI .i64 w50).bind fun n51 =>
 (h43.ld (.n h.next) 1).bind fun w52 =>
 (AV.asSl w52).bind fun l53 =>
 (h43.st (.n (h.next + 1)) 0 [J n45, L l47, L l49, J n51]).bind fun h54 =>
 (chkE (h54.ld (.n h.next) 1) (some (.sl l53.1 l53.2))).bind fun _ =>
 (h54.ld (.n (h.next + 1)) 0).bind fun w55 =>
 (AV.asI .i64 w55).bind fun n56 =>
 (h54.ld (.n (h.next + 1)) 1).bind fun w57 =>
 (AV.asSl w57).bind fun l58 =>
 (h54.ld (.n (h.next + 1)) 2).bind fun w59 =>
 (AV.asSl w59).bind fun l60 =>
 (h54.ld (.n (h.next + 1)) 3).bind fun w61 =>
 (AV.asI .i64 w61).bind fun n62 =>
 some ((.tup [(.agg [J n56, L l58, L l60, J n62]), (.i .i64 (l53.2 : Int))]), h54)
 else none)
 else none)
 else none))
 else none
def haymowref10_Take : Sm O := haymowref10_Take_c haymowref10_copied
theorem haymowref10_Take_ent : Entered Tryz.prog 222 := Tryz.call222
theorem haymowref10_Take_run (k284 : Sm O) : run (O := O) Tryz.prog [(284, k284)] Tryz.f222 (.n .z (.n .z (.n (.n .z (.n .z (.n .x .z))) (.n (.n .z (.n .z .x)) (.n (.d [] [0, 1, 2, 3, 4, 5, 6, 7, 8, 9] [0, 1, 0, 4, 12, 28, 60, 127, 255, 511]) (.n (.d [] [0, 1, 2, 3, 4, 5] [0, 0, 2, 6, 1, 31]) .z)))))) = haymowref10_Take_c k284 := by kernel_rfl
theorem haymowref10_Take_sound : FSound RO Tryz.prog 222 haymowref10_Take := sdf (haymowref10_Take_run _) (gcons haymowref10_copied_ent haymowref10_copied_sound <| gnil) Tryz.func222 (by kernel_rfl)
def haymowref18_Add_c (k222 : Sm O) : Sm O := fun xs h =>
 bif Nat.beq xs.length 2 then
 (AV.asAgg 5 (xs.getD 0 .u)).bind fun c0 =>
 I6 c0 0 fun n1 => Is c0 1 fun l2 => Is c0 2 fun l3 => I6 c0 3 fun n4 => Is c0 4 fun l5 => (AV.asI .u64 (xs.getD 1 .u)).bind fun n6 =>
 let h7 := h.bump 2
 let h8 := h7.put h.next (.cells true 50 [J n1, L l2, L l3, J n4, L l5])
 let h9 := h8.put (h.next + 1) (.cells true 50 [J 0, N, N, J 0, N])
 (h9.ld (.n h.next) 0).bind fun w10 =>
 (AV.asI .i64 w10).bind fun n11 =>
 (h9.ld (.n h.next) 1).bind fun w12 =>
 (AV.asSl w12).bind fun l13 =>
 (h9.ld (.n h.next) 2).bind fun w14 =>
 (AV.asSl w14).bind fun l15 =>
 (h9.ld (.n h.next) 3).bind fun w16 =>
 (AV.asI .i64 w16).bind fun n17 =>
 (k222 [(.agg [J n11, L l13, L l15, J n17])] h9).bind fun r18 =>
 (AV.asTup 2 r18.1).bind fun c19 =>
 (AV.asAgg 4 (c19.getD 0 .u)).bind fun c20 =>
 I6 c20 0 fun n21 => Is c20 1 fun l22 => Is c20 2 fun l23 => I6 c20 3 fun n24 => I6 c19 1 fun n25 => (r18.2.st (.n h.next) 0 [J n21, L l22, L l23, J n24]).bind fun h26 =>
 (h26.ld (.n h.next) 1).bind fun w27 =>
 (AV.asSl w27).bind fun l28 =>
 (bif ((decide ((0 : Int) ≤ (IntKind.i64.wrap (n25 - 1)))) && (decide ((IntKind.i64.wrap (n25 - 1)) < (l28.2 : Int)))) then
 (SA.ref l28.1).bind fun q29 =>
 (h26.ld q29.1 ((q29.2 + ((IntKind.i64.wrap (n25 - 1)).toNat * 3)) + 1)).bind fun w30 =>
 (AV.asI .i64 w30).bind fun n31 =>
 let v32 : Int := (IntKind.i64.wrap ((IntKind.i64.wrap (n25 - 1)) + (IntKind.i64.wrap (1048576 * n31))))
 let h33 := h26.bump 4
 let h34 := h33.put h26.next (.cells true 283 [])
 (h34.ld (.n h.next) 4).bind fun w35 =>
 (AV.asSl w35).bind fun l36 =>
 (h34.rdSl l36.1 l36.2 2).bind fun new37 =>
 (bif (Nat.ble ((0 + l36.2) * 17) 35184372088832) then
 (h34.appSl (h26.next + 1) 283 2 (.loc (.n h26.next) 0 2) 0 l36.2 new37).bind fun r38 =>
 (AV.asSl r38.1).bind fun l39 =>
 let h40 := r38.2.put ((h26.next + 1) + 1) (.cells true 283 [J v32, (.i .u64 n6)])
 (h40.rdSl (.loc (.n ((h26.next + 1) + 1)) 0 2) 1 2).bind fun new41 =>
 (bif (Nat.ble ((l39.2 + 1) * 17) 35184372088832) then
 (h40.appSl (((h26.next + 1) + 1) + 1) 283 2 l39.1 l39.2 1 new41).bind fun r42 =>
 (AV.asSl r42.1).bind fun l43 =>
 (r42.2.st (.n h.next) 4 [L l43]).bind fun h44 =>
 (h44.ld (.n h.next) 0).bind fun w45 =>
 (AV.asI .i64 w45).bind fun n46 =>
 (h44.ld (.n h.next) 1).bind fun w47 =>
 (AV.asSl w47).bind fun l48 =>
 (h44.ld (.n h.next) 2).bind fun w49 =>
 (AV.asSl w49).bind fun l50 =>
 (h44.ld (.n h.next) 3).bind fun w51 =>
 (AV.asI .i64 w51).bind fun n52 =>
 (h44.ld (.n h.next) 4).bind fun w53 =>
 (AV.asSl w53).bind fun l54 =>
 (h44.st (.n (h.next + 1)) 0 [J n46, L l48, L l50, J n52, L l54]).bind fun h55 =>
 (h55.ld (.n (h.next + 1)) 0).bind fun w56 =>
 (AV.asI .i64 w56).bind fun n57 =>
 (h55.ld (.n (h.next + 1)) 1).bind fun w58 =>
 (AV.asSl w58).bind fun l59 =>
 (h55.ld (.n (h.next + 1)) 2).bind fun w60 =>
 (AV.asSl w60).bind fun l61 =>
 (h55.ld (.n (h.next + 1)) 3).bind fun w62 =>
 (AV.asI .i64 w62).bind fun n63 =>
 (h55.ld (.n (h.next + 1)) 4).bind fun w64 =>
 (AV.asSl w64).bind fun l65 =>
 some ((.tup [(.agg [J n57, L l59, L l61, J n63, L l65]), J v32]), h55)
 else none)
 else none)
 else none)
 else none
def haymowref18_Add : Sm O := haymowref18_Add_c haymowref10_Take
theorem haymowref18_Add_ent : Entered Tryz.prog 148 := Tryz.call148
theorem haymowref18_Add_run (k222 : Sm O) : run (O := O) Tryz.prog [(222, k222)] Tryz.f148 (.n .z (.n .z (.n .z (.n .z (.n .z .z))))) = haymowref18_Add_c k222 := by kernel_rfl
theorem haymowref18_Add_sound : FSound RO Tryz.prog 148 haymowref18_Add := sdf (haymowref18_Add_run _) (gcons haymowref10_Take_ent haymowref10_Take_sound <| gnil) Tryz.func148 (by kernel_rfl)
def haymowref33_Global_p (w : Words O) (k142 k148 : Sm O) : Sm O := fun xs h =>
 bif Nat.beq xs.length 1 then
 (AV.asAgg 264 (xs.getD 0 .u)).bind fun c0 =>
 w.U2 c0 fun n1 n2 n3 n4 n5 l6 l7 n8 l9 l10 n11 l12 n13 l14 l15 n16 l17 n18 n19 n20 n21 n22 n23 n24 n25 n26 n27 n28 n29 n30 n31 n32 n33 l34 n35 n36 n37 n38 n39 n40 n41 n42 n43 n44 n45 n46 n47 n48 n49 n50 n51 n52 n53 n54 n55 n56 n57 n58 n59 n60 n61 n62 n63 n64 n65 n66 n67 n68 n69 n70 n71 n72 n73 n74 n75 n76 n77 n78 n79 n80 n81 n82 n83 n84 n85 n86 n87 n88 n89 n90 n91 n92 n93 n94 n95 n96 n97 n98 n99 n100 n101 n102 n103 n104 n105 n106 n107 n108 n109 n110 n111 n112 n113 n114 n115 n116 n117 n118 n119 n120 n121 n122 n123 n124 n125 n126 n127 n128 n129 n130 n131 n132 n133 n134 n135 n136 n137 n138 n139 n140 n141 n142 n143 n144 n145 n146 n147 n148 n149 n150 n151 n152 n153 n154 n155 n156 n157 n158 n159 n160 n161 n162 n163 n164 n165 n166 n167 n168 n169 n170 n171 n172 n173 n174 n175 n176 n177 n178 n179 n180 n181 n182 n183 n184 n185 n186 n187 n188 n189 n190 n191 n192 n193 n194 n195 n196 n197 n198 n199 n200 n201 n202 n203 n204 n205 n206 n207 n208 n209 n210 n211 n212 n213 n214 n215 n216 n217 n218 n219 n220 n221 n222 n223 n224 n225 n226 n227 n228 n229 n230 n231 n232 n233 n234 n235 n236 n237 n238 n239 n240 n241 n242 n243 n244 n245 n246 n247 n248 n249 n250 n251 n252 n253 n254 n255 n256 n257 n258 l259 n260 n261 n262 n263 n264 =>
 let h265 := h.bump 2
 let h266 := h265.put h.next (.cells true 62 (P8 n1 n2 n3 n4 n5 l6 l7 n8 l9 l10 n11 l12 n13 l14 l15 n16 l17 n18 n19 n20 n21 n22 n23 n24 n25 n26 n27 n28 n29 n30 n31 n32 n33 l34 n35 n36 n37 n38 n39 n40 n41 n42 n43 n44 n45 n46 n47 n48 n49 n50 n51 n52 n53 n54 n55 n56 n57 n58 n59 n60 n61 n62 n63 n64 n65 n66 n67 n68 n69 n70 n71 n72 n73 n74 n75 n76 n77 n78 n79 n80 n81 n82 n83 n84 n85 n86 n87 n88 n89 n90 n91 n92 n93 n94 n95 n96 n97 n98 n99 n100 n101 n102 n103 n104 n105 n106 n107 n108 n109 n110 n111 n112 n113 n114 n115 n116 n117 n118 n119 n120 n121 n122 n123 n124 n125 n126 n127 n128 n129 n130 n131 n132 n133 n134 n135 n136 n137 n138 n139 n140 n141 n142 n143 n144 n145 n146 n147 n148 n149 n150 n151 n152 n153 n154 n155 n156 n157 n158 n159 n160 n161 n162 n163 n164 n165 n166 n167 n168 n169 n170 n171 n172 n173 n174 n175 n176 n177 n178 n179 n180 n181 n182 n183 n184 n185 n186 n187 n188 n189 n190 n191 n192 n193 n194 n195 n196 n197 n198 n199 n200 n201 n202 n203 n204 n205 n206 n207 n208 n209 n210 n211 n212 n213 n214 n215 n216 n217 n218 n219 n220 n221 n222 n223 n224 n225 n226 n227 n228 n229 n230 n231 n232 n233 n234 n235 n236 n237 n238 n239 n240 n241 n242 n243 n244 n245 n246 n247 n248 n249 n250 n251 n252 n253 n254 n255 n256 n257 n258 l259 n260 n261 n262 n263 n264))
 let h267 := h266.put (h.next + 1) (.cells true 62 P7)
 (h267.ld (.n h.next) 32).bind fun w268 =>
 (AV.asI .i64 w268).bind fun n269 =>
 (h267.st (.n h.next) 32 [(.i .i64 (IntKind.i64.wrap (n269 + 1)))]).bind fun h270 =>
 w.W2 h270 (.n h.next) 0 fun n272 n274 n276 n278 n280 l282 l284 n286 l288 l290 n292 l294 n296 l298 l300 n302 l304 n306 n308 n310 n312 n314 n316 n318 n320 n322 n324 n326 n328 n330 n332 n334 n336 l338 n340 n342 n344 n346 n348 n350 n352 n354 n356 n358 n360 n362 n364 n366 n368 n370 n372 n374 n376 n378 n380 n382 n384 n386 n388 n390 n392 n394 n396 n398 n400 n402 n404 n406 n408 n410 n412 n414 n416 n418 n420 n422 n424 n426 n428 n430 n432 n434 n436 n438 n440 n442 n444 n446 n448 n450 n452 n454 n456 n458 n460 n462 n464 n466 n468 n470 n472 n474 n476 n478 n480 n482 n484 n486 n488 n490 n492 n494 n496 n498 n500 n502 n504 n506 n508 n510 n512 n514 n516 n518 n520 n522 n524 n526 n528 n530 n532 n534 n536 n538 n540 n542 n544 n546 n548 n550 n552 n554 n556 n558 n560 n562 n564 n566 n568 n570 n572 n574 n576 n578 n580 n582 n584 n586 n588 n590 n592 n594 n596 n598 n600 n602 n604 n606 n608 n610 n612 n614 n616 n618 n620 n622 n624 n626 n628 n630 n632 n634 n636 n638 n640 n642 n644 n646 n648 n650 n652 n654 n656 n658 n660 n662 n664 n666 n668 n670 n672 n674 n676 n678 n680 n682 n684 n686 n688 n690 n692 n694 n696 n698 n700 n702 n704 n706 n708 n710 n712 n714 n716 n718 n720 n722 n724 n726 n728 n730 n732 n734 n736 n738 n740 n742 n744 n746 n748 n750 n752 n754 n756 n758 n760 n762 n764 n766 n768 n770 n772 n774 n776 n778 n780 n782 n784 n786 l788 n790 n792 n794 n796 n798 =>
 (k142 [(.agg (P8 n272 n274 n276 n278 n280 l282 l284 n286 l288 l290 n292 l294 n296 l298 l300 n302 l304 n306 n308 n310 n312 n314 n316 n318 n320 n322 n324 n326 n328 n330 n332 n334 n336 l338 n340 n342 n344 n346 n348 n350 n352 n354 n356 n358 n360 n362 n364 n366 n368 n370 n372 n374 n376 n378 n380 n382 n384 n386 n388 n390 n392 n394 n396 n398 n400 n402 n404 n406 n408 n410 n412 n414 n416 n418 n420 n422 n424 n426 n428 n430 n432 n434 n436 n438 n440 n442 n444 n446 n448 n450 n452 n454 n456 n458 n460 n462 n464 n466 n468 n470 n472 n474 n476 n478 n480 n482 n484 n486 n488 n490 n492 n494 n496 n498 n500 n502 n504 n506 n508 n510 n512 n514 n516 n518 n520 n522 n524 n526 n528 n530 n532 n534 n536 n538 n540 n542 n544 n546 n548 n550 n552 n554 n556 n558 n560 n562 n564 n566 n568 n570 n572 n574 n576 n578 n580 n582 n584 n586 n588 n590 n592 n594 n596 n598 n600 n602 n604 n606 n608 n610 n612 n614 n616 n618 n620 n622 n624 n626 n628 n630 n632 n634 n636 n638 n640 n642 n644 n646 n648 n650 n652 n654 n656 n658 n660 n662 n664 n666 n668 n670 n672 n674 n676 n678 n680 n682 n684 n686 n688 n690 n692 n694 n696 n698 n700 n702 n704 n706 n708 n710 n712 n714 n716 n718 n720 n722 n724 n726 n728 n730 n732 n734 n736 n738 n740 n742 n744 n746 n748 n750 n752 n754 n756 n758 n760 n762 n764 n766 n768 n770 n772 n774 n776 n778 n780 n782 n784 n786 l788 n790 n792 n794 n796 n798)), J 4] h270).bind fun r799 =>
 (AV.asTup 2 r799.1).bind fun c800 =>
 (AV.asAgg 264 (c800.getD 0 .u)).bind fun c801 =>
 w.U2 c801 fun n802 n803 n804 n805 n806 l807 l808 n809 l810 l811 n812 l813 n814 l815 l816 n817 l818 n819 n820 n821 n822 n823 n824 n825 n826 n827 n828 n829 n830 n831 n832 n833 n834 l835 n836 n837 n838 n839 n840 n841 n842 n843 n844 n845 n846 n847 n848 n849 n850 n851 n852 n853 n854 n855 n856 n857 n858 n859 n860 n861 n862 n863 n864 n865 n866 n867 n868 n869 n870 n871 n872 n873 n874 n875 n876 n877 n878 n879 n880 n881 n882 n883 n884 n885 n886 n887 n888 n889 n890 n891 n892 n893 n894 n895 n896 n897 n898 n899 n900 n901 n902 n903 n904 n905 n906 n907 n908 n909 n910 n911 n912 n913 n914 n915 n916 n917 n918 n919 n920 n921 n922 n923 n924 n925 n926 n927 n928 n929 n930 n931 n932 n933 n934 n935 n936 n937 n938 n939 n940 n941 n942 n943 n944 n945 n946 n947 n948 n949 n950 n951 n952 n953 n954 n955 n956 n957 n958 n959 n960 n961 n962 n963 n964 n965 n966 n967 n968 n969 n970 n971 n972 n973 n974 n975 n976 n977 n978 n979 n980 n981 n982 n983 n984 n985 n986 n987 n988 n989 n990 n991 n992 n993 n994 n995 n996 n997 n998 n999 n1000 n1001 n1002 n1003 n1004 n1005 n1006 n1007 n1008 n1009 n1010 n1011 n1012 n1013 n1014 n1015 n1016 n1017 n1018 n1019 n1020 n1021 n1022 n1023 n1024 n1025 n1026 n1027 n1028 n1029 n1030 n1031 n1032 n1033 n1034 n1035 n1036 n1037 n1038 n1039 n1040 n1041 n1042 n1043 n1044 n1045 n1046 n1047 n1048 n1049 n1050 n1051 n1052 n1053 n1054 n1055 n1056 n1057 n1058 n1059 l1060 n1061 n1062 n1063 n1064 n1065 =>
 (AV.asB (c800.getD 1 .u)).bind fun b1066 =>
 (r799.2.st (.n h.next) 0 (P8 n802 n803 n804 n805 n806 l807 l808 n809 l810 l811 n812 l813 n814 l815 l816 n817 l818 n819 n820 n821 n822 n823 n824 n825 n826 n827 n828 n829 n830 n831 n832 n833 n834 l835 n836 n837 n838 n839 n840 n841 n842 n843 n844 n845 n846 n847 n848 n849 n850 n851 n852 n853 n854 n855 n856 n857 n858 n859 n860 n861 n862 n863 n864 n865 n866 n867 n868 n869 n870 n871 n872 n873 n874 n875 n876 n877 n878 n879 n880 n881 n882 n883 n884 n885 n886 n887 n888 n889 n890 n891 n892 n893 n894 n895 n896 n897 n898 n899 n900 n901 n902 n903 n904 n905 n906 n907 n908 n909 n910 n911 n912 n913 n914 n915 n916 n917 n918 n919 n920 n921 n922 n923 n924 n925 n926 n927 n928 n929 n930 n931 n932 n933 n934 n935 n936 n937 n938 n939 n940 n941 n942 n943 n944 n945 n946 n947 n948 n949 n950 n951 n952 n953 n954 n955 n956 n957 n958 n959 n960 n961 n962 n963 n964 n965 n966 n967 n968 n969 n970 n971 n972 n973 n974 n975 n976 n977 n978 n979 n980 n981 n982 n983 n984 n985 n986 n987 n988 n989 n990 n991 n992 n993 n994 n995 n996 n997 n998 n999 n1000 n1001 n1002 n1003 n1004 n1005 n1006 n1007 n1008 n1009 n1010 n1011 n1012 n1013 n1014 n1015 n1016 n1017 n1018 n1019 n1020 n1021 n1022 n1023 n1024 n1025 n1026 n1027 n1028 n1029 n1030 n1031 n1032 n1033 n1034 n1035 n1036 n1037 n1038 n1039 n1040 n1041 n1042 n1043 n1044 n1045 n1046 n1047 n1048 n1049 n1050 n1051 n1052 n1053 n1054 n1055 n1056 n1057 n1058 n1059 l1060 n1061 n1062 n1063 n1064 n1065)).bind fun h1067 =>
 (bif (!b1066) then
 none
 else (h1067.ld (.n h.next) 7).bind fun w1068 =>
 (AV.asI .i64 w1068).bind fun n1069 =>
 (h1067.ld (.n h.next) 8).bind fun w1070 =>
 (AV.asSl w1070).bind fun l1071 =>
 (h1067.ld (.n h.next) 9).bind fun w1072 =>
 (AV.asSl w1072).bind fun l1073 =>
 (h1067.ld (.n h.next) 10).bind fun w1074 =>
 (AV.asI .i64 w1074).bind fun n1075 =>
 (h1067.ld (.n h.next) 11).bind fun w1076 =>
 (AV.asSl w1076).bind fun l1077 =>
 (k148 [(.agg [J n1069, L l1071, L l1073, J n1075, L l1077]), (.i .u64 0)] h1067).bind fun r1078 =>
 (AV.asTup 2 r1078.1).bind fun c1079 =>
 (AV.asAgg 5 (c1079.getD 0 .u)).bind fun c1080 =>
 I6 c1080 0 fun n1081 => Is c1080 1 fun l1082 => Is c1080 2 fun l1083 => I6 c1080 3 fun n1084 => Is c1080 4 fun l1085 => I6 c1079 1 fun n1086 => (r1078.2.st (.n h.next) 7 [J n1081, L l1082, L l1083, J n1084, L l1085]).bind fun h1087 =>
 w.W2 h1087 (.n h.next) 0 fun n1089 n1091 n1093 n1095 n1097 l1099 l1101 n1103 l1105 l1107 n1109 l1111 n1113 l1115 l1117 n1119 l1121 n1123 n1125 n1127 n1129 n1131 n1133 n1135 n1137 n1139 n1141 n1143 n1145 n1147 n1149 n1151 n1153 l1155 n1157 n1159 n1161 n1163 n1165 n1167 n1169 n1171 n1173 n1175 n1177 n1179 n1181 n1183 n1185 n1187 n1189 n1191 n1193 n1195 n1197 n1199 n1201 n1203 n1205 n1207 n1209 n1211 n1213 n1215 n1217 n1219 n1221 n1223 n1225 n1227 n1229 n1231 n1233 n1235 n1237 n1239 n1241 n1243 n1245 n1247 n1249 n1251 n1253 n1255 n1257 n1259 n1261 n1263 n1265 n1267 n1269 n1271 n1273 n1275 n1277 n1279 n1281 n1283 n1285 n1287 n1289 n1291 n1293 n1295 n1297 n1299 n1301 n1303 n1305 n1307 n1309 n1311 n1313 n1315 n1317 n1319 n1321 n1323 n1325 n1327 n1329 n1331 n1333 n1335 n1337 n1339 n1341 n1343 n1345 n1347 n1349 n1351 n1353 n1355 n1357 n1359 n1361 n1363 n1365 n1367 n1369 n1371 n1373 n1375 n1377 n1379 n1381 n1383 n1385 n1387 n1389 n1391 n1393 n1395 n1397 n1399 n1401 n1403 n1405 n1407 n1409 n1411 n1413 n1415 n1417 n1419 n1421 n1423 n1425 n1427 n1429 n1431 n1433 n1435 n1437 n1439 n1441 n1443 n1445 n1447 n1449 n1451 n1453 n1455 n1457 n1459 n1461 n1463 n1465 n1467 n1469 n1471 n1473 n1475 n1477 n1479 n1481 n1483 n1485 n1487 n1489 n1491 n1493 n1495 n1497 n1499 n1501 n1503 n1505 n1507 n1509 n1511 n1513 n1515 n1517 n1519 n1521 n1523 n1525 n1527 n1529 n1531 n1533 n1535 n1537 n1539 n1541 n1543 n1545 n1547 n1549 n1551 n1553 n1555 n1557 n1559 n1561 n1563 n1565 n1567 n1569 n1571 n1573 n1575 n1577 n1579 n1581 n1583 n1585 n1587 n1589 n1591 n1593 n1595 n1597 n1599 n1601 n1603 l1605 n1607 n1609 n1611 n1613 n1615 =>
 (h1087.st (.n (h.next + 1)) 0 (P8 n1089 n1091 n1093 n1095 n1097 l1099 l1101 n1103 l1105 l1107 n1109 l1111 n1113 l1115 l1117 n1119 l1121 n1123 n1125 n1127 n1129 n1131 n1133 n1135 n1137 n1139 n1141 n1143 n1145 n1147 n1149 n1151 n1153 l1155 n1157 n1159 n1161 n1163 n1165 n1167 n1169 n1171 n1173 n1175 n1177 n1179 n1181 n1183 n1185 n1187 n1189 n1191 n1193 n1195 n1197 n1199 n1201 n1203 n1205 n1207 n1209 n1211 n1213 n1215 n1217 n1219 n1221 n1223 n1225 n1227 n1229 n1231 n1233 n1235 n1237 n1239 n1241 n1243 n1245 n1247 n1249 n1251 n1253 n1255 n1257 n1259 n1261 n1263 n1265 n1267 n1269 n1271 n1273 n1275 n1277 n1279 n1281 n1283 n1285 n1287 n1289 n1291 n1293 n1295 n1297 n1299 n1301 n1303 n1305 n1307 n1309 n1311 n1313 n1315 n1317 n1319 n1321 n1323 n1325 n1327 n1329 n1331 n1333 n1335 n1337 n1339 n1341 n1343 n1345 n1347 n1349 n1351 n1353 n1355 n1357 n1359 n1361 n1363 n1365 n1367 n1369 n1371 n1373 n1375 n1377 n1379 n1381 n1383 n1385 n1387 n1389 n1391 n1393 n1395 n1397 n1399 n1401 n1403 n1405 n1407 n1409 n1411 n1413 n1415 n1417 n1419 n1421 n1423 n1425 n1427 n1429 n1431 n1433 n1435 n1437 n1439 n1441 n1443 n1445 n1447 n1449 n1451 n1453 n1455 n1457 n1459 n1461 n1463 n1465 n1467 n1469 n1471 n1473 n1475 n1477 n1479 n1481 n1483 n1485 n1487 n1489 n1491 n1493 n1495 n1497 n1499 n1501 n1503 n1505 n1507 n1509 n1511 n1513 n1515 n1517 n1519 n1521 n1523 n1525 n1527 n1529 n1531 n1533 n1535 n1537 n1539 n1541 n1543 n1545 n1547 n1549 n1551 n1553 n1555 n1557 n1559 n1561 n1563 n1565 n1567 n1569 n1571 n1573 n1575 n1577 n1579 n1581 n1583 n1585 n1587 n1589 n1591 n1593 n1595 n1597 n1599 n1601 n1603 l1605 n1607 n1609 n1611 n1613 n1615)).bind fun h1616 =>
 w.W2 h1616 (.n (h.next + 1)) 0 fun n1618 n1620 n1622 n1624 n1626 l1628 l1630 n1632 l1634 l1636 n1638 l1640 n1642 l1644 l1646 n1648 l1650 n1652 n1654 n1656 n1658 n1660 n1662 n1664 n1666 n1668 n1670 n1672 n1674 n1676 n1678 n1680 n1682 l1684 n1686 n1688 n1690 n1692 n1694 n1696 n1698 n1700 n1702 n1704 n1706 n1708 n1710 n1712 n1714 n1716 n1718 n1720 n1722 n1724 n1726 n1728 n1730 n1732 n1734 n1736 n1738 n1740 n1742 n1744 n1746 n1748 n1750 n1752 n1754 n1756 n1758 n1760 n1762 n1764 n1766 n1768 n1770 n1772 n1774 n1776 n1778 n1780 n1782 n1784 n1786 n1788 n1790 n1792 n1794 n1796 n1798 n1800 n1802 n1804 n1806 n1808 n1810 n1812 n1814 n1816 n1818 n1820 n1822 n1824 n1826 n1828 n1830 n1832 n1834 n1836 n1838 n1840 n1842 n1844 n1846 n1848 n1850 n1852 n1854 n1856 n1858 n1860 n1862 n1864 n1866 n1868 n1870 n1872 n1874 n1876 n1878 n1880 n1882 n1884 n1886 n1888 n1890 n1892 n1894 n1896 n1898 n1900 n1902 n1904 n1906 n1908 n1910 n1912 n1914 n1916 n1918 n1920 n1922 n1924 n1926 n1928 n1930 n1932 n1934 n1936 n1938 n1940 n1942 n1944 n1946 n1948 n1950 n1952 n1954 n1956 n1958 n1960 n1962 n1964 n1966 n1968 n1970 n1972 n1974 n1976 n1978 n1980 n1982 n1984 n1986 n1988 n1990 n1992 n1994 n1996 n1998 n2000 n2002 n2004 n2006 n2008 n2010 n2012 n2014 n2016 n2018 n2020 n2022 n2024 n2026 n2028 n2030 n2032 n2034 n2036 n2038 n2040 n2042 n2044 n2046 n2048 n2050 n2052 n2054 n2056 n2058 n2060 n2062 n2064 n2066 n2068 n2070 n2072 n2074 n2076 n2078 n2080 n2082 n2084 n2086 n2088 n2090 n2092 n2094 n2096 n2098 n2100 n2102 n2104 n2106 n2108 n2110 n2112 n2114 n2116 n2118 n2120 n2122 n2124 n2126 n2128 n2130 n2132 l2134 n2136 n2138 n2140 n2142 n2144 =>
 some ((.tup [(.agg (P8 n1618 n1620 n1622 n1624 n1626 l1628 l1630 n1632 l1634 l1636 n1638 l1640 n1642 l1644 l1646 n1648 l1650 n1652 n1654 n1656 n1658 n1660 n1662 n1664 n1666 n1668 n1670 n1672 n1674 n1676 n1678 n1680 n1682 l1684 n1686 n1688 n1690 n1692 n1694 n1696 n1698 n1700 n1702 n1704 n1706 n1708 n1710 n1712 n1714 n1716 n1718 n1720 n1722 n1724 n1726 n1728 n1730 n1732 n1734 n1736 n1738 n1740 n1742 n1744 n1746 n1748 n1750 n1752 n1754 n1756 n1758 n1760 n1762 n1764 n1766 n1768 n1770 n1772 n1774 n1776 n1778 n1780 n1782 n1784 n1786 n1788 n1790 n1792 n1794 n1796 n1798 n1800 n1802 n1804 n1806 n1808 n1810 n1812 n1814 n1816 n1818 n1820 n1822 n1824 n1826 n1828 n1830 n1832 n1834 n1836 n1838 n1840 n1842 n1844 n1846 n1848 n1850 n1852 n1854 n1856 n1858 n1860 n1862 n1864 n1866 n1868 n1870 n1872 n1874 n1876 n1878 n1880 n1882 n1884 n1886 n1888 n1890 n1892 n1894 n1896 n1898 n1900 n1902 n1904 n1906 n1908 n1910 n1912 n1914 n1916 n1918 n1920 n1922 n1924 n1926 n1928 n1930 n1932 n1934 n1936 n1938 n1940 n1942 n1944 n1946 n1948 n1950 n1952 n1954 n1956 n1958 n1960 n1962 n1964 n1966 n1968 n1970 n1972 n1974 n1976 n1978 n1980 n1982 n1984 n1986 n1988 n1990 n1992 n1994 n1996 n1998 n2000 n2002 n2004 n2006 n2008 n2010 n2012 n2014 n2016 n2018 n2020 n2022 n2024 n2026 n2028 n2030 n2032 n2034 n2036 n2038 n2040 n2042 n2044 n2046 n2048 n2050 n2052 n2054 n2056 n2058 n2060 n2062 n2064 n2066 n2068 n2070 n2072 n2074 n2076 n2078 n2080 n2082 n2084 n2086 n2088 n2090 n2092 n2094 n2096 n2098 n2100 n2102 n2104 n2106 n2108 n2110 n2112 n2114 n2116 n2118 n2120 n2122 n2124 n2126 n2128 n2130 n2132 l2134 n2136 n2138 n2140 n2142 n2144)), J n1086, J 0]), h1616))
 else none
def haymowref33_Global_c (k142 k148 : Sm O) : Sm O := haymowref33_Global_p fastWords k142 k148
def haymowref33_Global : Sm O := haymowref33_Global_c haymowref33_Request haymowref18_Add
theorem haymowref33_Global_ent : Entered Tryz.prog 86 := Tryz.call86
theorem haymowref33_Global_run (k142 k148 : Sm O) : run (O := O) Tryz.prog [(142, k142), (148, k148)] Tryz.f86 (.n .z (.n .z (.n .z (.n .z (.n (.n .z (.n .x .z)) (.n .z .z)))))) = haymowref33_Global_c k142 k148 :=
 (show run (O := O) Tryz.prog [(142, k142), (148, k148)] Tryz.f86 (.n .z (.n .z (.n .z (.n .z (.n (.n .z (.n .x .z)) (.n .z .z)))))) = haymowref33_Global_p slowWords k142 k148 by kernel_rfl).trans (congrArg (fun w => haymowref33_Global_p w k142 k148) words_eq)
theorem haymowref33_Global_sound : FSound RO Tryz.prog 86 haymowref33_Global := sdf (haymowref33_Global_run _ _) (gcons haymowref33_Request_ent haymowref33_Request_sound <| gcons haymowref18_Add_ent haymowref18_Add_sound <| gnil) Tryz.func86 (by kernel_rfl)
def law33_grants_p (w : Words O) (k83 k84 k85 k86 : Sm O) : Sm O := fun xs h =>
 bif Nat.beq xs.length 3 then
 (AV.asP (xs.getD 0 .u)).bind fun p0 =>
 (AV.asAgg 264 (xs.getD 1 .u)).bind fun c1 =>
 w.U2 c1 fun n2 n3 n4 n5 n6 l7 l8 n9 l10 l11 n12 l13 n14 l15 l16 n17 l18 n19 n20 n21 n22 n23 n24 n25 n26 n27 n28 n29 n30 n31 n32 n33 n34 l35 n36 n37 n38 n39 n40 n41 n42 n43 n44 n45 n46 n47 n48 n49 n50 n51 n52 n53 n54 n55 n56 n57 n58 n59 n60 n61 n62 n63 n64 n65 n66 n67 n68 n69 n70 n71 n72 n73 n74 n75 n76 n77 n78 n79 n80 n81 n82 n83 n84 n85 n86 n87 n88 n89 n90 n91 n92 n93 n94 n95 n96 n97 n98 n99 n100 n101 n102 n103 n104 n105 n106 n107 n108 n109 n110 n111 n112 n113 n114 n115 n116 n117 n118 n119 n120 n121 n122 n123 n124 n125 n126 n127 n128 n129 n130 n131 n132 n133 n134 n135 n136 n137 n138 n139 n140 n141 n142 n143 n144 n145 n146 n147 n148 n149 n150 n151 n152 n153 n154 n155 n156 n157 n158 n159 n160 n161 n162 n163 n164 n165 n166 n167 n168 n169 n170 n171 n172 n173 n174 n175 n176 n177 n178 n179 n180 n181 n182 n183 n184 n185 n186 n187 n188 n189 n190 n191 n192 n193 n194 n195 n196 n197 n198 n199 n200 n201 n202 n203 n204 n205 n206 n207 n208 n209 n210 n211 n212 n213 n214 n215 n216 n217 n218 n219 n220 n221 n222 n223 n224 n225 n226 n227 n228 n229 n230 n231 n232 n233 n234 n235 n236 n237 n238 n239 n240 n241 n242 n243 n244 n245 n246 n247 n248 n249 n250 n251 n252 n253 n254 n255 n256 n257 n258 n259 l260 n261 n262 n263 n264 n265 =>
 (AV.asAgg 5 (xs.getD 2 .u)).bind fun c266 =>
 I6 c266 0 fun n267 => I6 c266 1 fun n268 => I6 c266 2 fun n269 => I6 c266 3 fun n270 => I6 c266 4 fun n271 => let h272 := h.bump 3
 let h273 := h272.put h.next (.cells true 62 (P8 n2 n3 n4 n5 n6 l7 l8 n9 l10 l11 n12 l13 n14 l15 l16 n17 l18 n19 n20 n21 n22 n23 n24 n25 n26 n27 n28 n29 n30 n31 n32 n33 n34 l35 n36 n37 n38 n39 n40 n41 n42 n43 n44 n45 n46 n47 n48 n49 n50 n51 n52 n53 n54 n55 n56 n57 n58 n59 n60 n61 n62 n63 n64 n65 n66 n67 n68 n69 n70 n71 n72 n73 n74 n75 n76 n77 n78 n79 n80 n81 n82 n83 n84 n85 n86 n87 n88 n89 n90 n91 n92 n93 n94 n95 n96 n97 n98 n99 n100 n101 n102 n103 n104 n105 n106 n107 n108 n109 n110 n111 n112 n113 n114 n115 n116 n117 n118 n119 n120 n121 n122 n123 n124 n125 n126 n127 n128 n129 n130 n131 n132 n133 n134 n135 n136 n137 n138 n139 n140 n141 n142 n143 n144 n145 n146 n147 n148 n149 n150 n151 n152 n153 n154 n155 n156 n157 n158 n159 n160 n161 n162 n163 n164 n165 n166 n167 n168 n169 n170 n171 n172 n173 n174 n175 n176 n177 n178 n179 n180 n181 n182 n183 n184 n185 n186 n187 n188 n189 n190 n191 n192 n193 n194 n195 n196 n197 n198 n199 n200 n201 n202 n203 n204 n205 n206 n207 n208 n209 n210 n211 n212 n213 n214 n215 n216 n217 n218 n219 n220 n221 n222 n223 n224 n225 n226 n227 n228 n229 n230 n231 n232 n233 n234 n235 n236 n237 n238 n239 n240 n241 n242 n243 n244 n245 n246 n247 n248 n249 n250 n251 n252 n253 n254 n255 n256 n257 n258 n259 l260 n261 n262 n263 n264 n265))
 let h274 := h273.put (h.next + 1) (.cells true 66 [J n267, J n268, J n269, J n270, J n271])
 let h275 := h274.put ((h.next + 1) + 1) (.cells true 62 P7)
 (h275.ld (.n (h.next + 1)) 0).bind fun w276 =>
 (AV.asI .i64 w276).bind fun n277 =>
 (bif ((n277 : Int) == 0) then
 let h278 := h275.bump 1
 (h278.ld (.n (h.next + 1)) 2).bind fun w279 =>
 (AV.asI .i64 w279).bind fun n280 =>
 (h278.ld (.n (h.next + 1)) 3).bind fun w281 =>
 (AV.asI .i64 w281).bind fun n282 =>
 let h283 := h278.put h275.next (.cells true 70 [J 0, J 0])
 (h283.st (.n h275.next) 0 [J n280, J n282]).bind fun h284 =>
 (h284.ld (.n (h.next + 1)) 1).bind fun w285 =>
 (AV.asI .i64 w285).bind fun n286 =>
 (h284.ld (.n h275.next) 0).bind fun w287 =>
 (AV.asI .i64 w287).bind fun n288 =>
 (h284.ld (.n h275.next) 1).bind fun w289 =>
 (AV.asI .i64 w289).bind fun n290 =>
 (h284.ld (.n (h.next + 1)) 4).bind fun w291 =>
 (AV.asI .i64 w291).bind fun n292 =>
 (k83 [(.p p0), J n286, (.agg [J n288, J n290]), J n292] h284).bind fun r293 =>
 (AV.asI .i64 r293.1).bind fun n294 =>
 w.W2 r293.2 (.n h.next) 0 fun n296 n298 n300 n302 n304 l306 l308 n310 l312 l314 n316 l318 n320 l322 l324 n326 l328 n330 n332 n334 n336 n338 n340 n342 n344 n346 n348 n350 n352 n354 n356 n358 n360 l362 n364 n366 n368 n370 n372 n374 n376 n378 n380 n382 n384 n386 n388 n390 n392 n394 n396 n398 n400 n402 n404 n406 n408 n410 n412 n414 n416 n418 n420 n422 n424 n426 n428 n430 n432 n434 n436 n438 n440 n442 n444 n446 n448 n450 n452 n454 n456 n458 n460 n462 n464 n466 n468 n470 n472 n474 n476 n478 n480 n482 n484 n486 n488 n490 n492 n494 n496 n498 n500 n502 n504 n506 n508 n510 n512 n514 n516 n518 n520 n522 n524 n526 n528 n530 n532 n534 n536 n538 n540 n542 n544 n546 n548 n550 n552 n554 n556 n558 n560 n562 n564 n566 n568 n570 n572 n574 n576 n578 n580 n582 n584 n586 n588 n590 n592 n594 n596 n598 n600 n602 n604 n606 n608 n610 n612 n614 n616 n618 n620 n622 n624 n626 n628 n630 n632 n634 n636 n638 n640 n642 n644 n646 n648 n650 n652 n654 n656 n658 n660 n662 n664 n666 n668 n670 n672 n674 n676 n678 n680 n682 n684 n686 n688 n690 n692 n694 n696 n698 n700 n702 n704 n706 n708 n710 n712 n714 n716 n718 n720 n722 n724 n726 n728 n730 n732 n734 n736 n738 n740 n742 n744 n746 n748 n750 n752 n754 n756 n758 n760 n762 n764 n766 n768 n770 n772 n774 n776 n778 n780 n782 n784 n786 n788 n790 n792 n794 n796 n798 n800 n802 n804 n806 n808 n810 l812 n814 n816 n818 n820 n822 =>
 (r293.2.ld (.n (h.next + 1)) 1).bind fun w823 =>
 (AV.asI .i64 w823).bind fun n824 =>
 (r293.2.ld (.n h275.next) 0).bind fun w825 =>
 (AV.asI .i64 w825).bind fun n826 =>
 (r293.2.ld (.n h275.next) 1).bind fun w827 =>
 (AV.asI .i64 w827).bind fun n828 =>
 (r293.2.ld (.n (h.next + 1)) 4).bind fun w829 =>
 (AV.asI .i64 w829).bind fun n830 =>
 (k84 [(.agg (P8 n296 n298 n300 n302 n304 l306 l308 n310 l312 l314 n316 l318 n320 l322 l324 n326 l328 n330 n332 n334 n336 n338 n340 n342 n344 n346 n348 n350 n352 n354 n356 n358 n360 l362 n364 n366 n368 n370 n372 n374 n376 n378 n380 n382 n384 n386 n388 n390 n392 n394 n396 n398 n400 n402 n404 n406 n408 n410 n412 n414 n416 n418 n420 n422 n424 n426 n428 n430 n432 n434 n436 n438 n440 n442 n444 n446 n448 n450 n452 n454 n456 n458 n460 n462 n464 n466 n468 n470 n472 n474 n476 n478 n480 n482 n484 n486 n488 n490 n492 n494 n496 n498 n500 n502 n504 n506 n508 n510 n512 n514 n516 n518 n520 n522 n524 n526 n528 n530 n532 n534 n536 n538 n540 n542 n544 n546 n548 n550 n552 n554 n556 n558 n560 n562 n564 n566 n568 n570 n572 n574 n576 n578 n580 n582 n584 n586 n588 n590 n592 n594 n596 n598 n600 n602 n604 n606 n608 n610 n612 n614 n616 n618 n620 n622 n624 n626 n628 n630 n632 n634 n636 n638 n640 n642 n644 n646 n648 n650 n652 n654 n656 n658 n660 n662 n664 n666 n668 n670 n672 n674 n676 n678 n680 n682 n684 n686 n688 n690 n692 n694 n696 n698 n700 n702 n704 n706 n708 n710 n712 n714 n716 n718 n720 n722 n724 n726 n728 n730 n732 n734 n736 n738 n740 n742 n744 n746 n748 n750 n752 n754 n756 n758 n760 n762 n764 n766 n768 n770 n772 n774 n776 n778 n780 n782 n784 n786 n788 n790 n792 n794 n796 n798 n800 n802 n804 n806 n808 n810 l812 n814 n816 n818 n820 n822)), J n824, (.agg [J n826, J n828]), J n830] r293.2).bind fun r831 =>
 (AV.asTup 2 r831.1).bind fun c832 =>
 (AV.asAgg 264 (c832.getD 0 .u)).bind fun c833 =>
 w.U2 c833 fun n834 n835 n836 n837 n838 l839 l840 n841 l842 l843 n844 l845 n846 l847 l848 n849 l850 n851 n852 n853 n854 n855 n856 n857 n858 n859 n860 n861 n862 n863 n864 n865 n866 l867 n868 n869 n870 n871 n872 n873 n874 n875 n876 n877 n878 n879 n880 n881 n882 n883 n884 n885 n886 n887 n888 n889 n890 n891 n892 n893 n894 n895 n896 n897 n898 n899 n900 n901 n902 n903 n904 n905 n906 n907 n908 n909 n910 n911 n912 n913 n914 n915 n916 n917 n918 n919 n920 n921 n922 n923 n924 n925 n926 n927 n928 n929 n930 n931 n932 n933 n934 n935 n936 n937 n938 n939 n940 n941 n942 n943 n944 n945 n946 n947 n948 n949 n950 n951 n952 n953 n954 n955 n956 n957 n958 n959 n960 n961 n962 n963 n964 n965 n966 n967 n968 n969 n970 n971 n972 n973 n974 n975 n976 n977 n978 n979 n980 n981 n982 n983 n984 n985 n986 n987 n988 n989 n990 n991 n992 n993 n994 n995 n996 n997 n998 n999 n1000 n1001 n1002 n1003 n1004 n1005 n1006 n1007 n1008 n1009 n1010 n1011 n1012 n1013 n1014 n1015 n1016 n1017 n1018 n1019 n1020 n1021 n1022 n1023 n1024 n1025 n1026 n1027 n1028 n1029 n1030 n1031 n1032 n1033 n1034 n1035 n1036 n1037 n1038 n1039 n1040 n1041 n1042 n1043 n1044 n1045 n1046 n1047 n1048 n1049 n1050 n1051 n1052 n1053 n1054 n1055 n1056 n1057 n1058 n1059 n1060 n1061 n1062 n1063 n1064 n1065 n1066 n1067 n1068 n1069 n1070 n1071 n1072 n1073 n1074 n1075 n1076 n1077 n1078 n1079 n1080 n1081 n1082 n1083 n1084 n1085 n1086 n1087 n1088 n1089 n1090 n1091 l1092 n1093 n1094 n1095 n1096 n1097 =>
 I6 c832 1 fun n1098 => (r831.2.st (.n h.next) 0 (P8 n834 n835 n836 n837 n838 l839 l840 n841 l842 l843 n844 l845 n846 l847 l848 n849 l850 n851 n852 n853 n854 n855 n856 n857 n858 n859 n860 n861 n862 n863 n864 n865 n866 l867 n868 n869 n870 n871 n872 n873 n874 n875 n876 n877 n878 n879 n880 n881 n882 n883 n884 n885 n886 n887 n888 n889 n890 n891 n892 n893 n894 n895 n896 n897 n898 n899 n900 n901 n902 n903 n904 n905 n906 n907 n908 n909 n910 n911 n912 n913 n914 n915 n916 n917 n918 n919 n920 n921 n922 n923 n924 n925 n926 n927 n928 n929 n930 n931 n932 n933 n934 n935 n936 n937 n938 n939 n940 n941 n942 n943 n944 n945 n946 n947 n948 n949 n950 n951 n952 n953 n954 n955 n956 n957 n958 n959 n960 n961 n962 n963 n964 n965 n966 n967 n968 n969 n970 n971 n972 n973 n974 n975 n976 n977 n978 n979 n980 n981 n982 n983 n984 n985 n986 n987 n988 n989 n990 n991 n992 n993 n994 n995 n996 n997 n998 n999 n1000 n1001 n1002 n1003 n1004 n1005 n1006 n1007 n1008 n1009 n1010 n1011 n1012 n1013 n1014 n1015 n1016 n1017 n1018 n1019 n1020 n1021 n1022 n1023 n1024 n1025 n1026 n1027 n1028 n1029 n1030 n1031 n1032 n1033 n1034 n1035 n1036 n1037 n1038 n1039 n1040 n1041 n1042 n1043 n1044 n1045 n1046 n1047 n1048 n1049 n1050 n1051 n1052 n1053 n1054 n1055 n1056 n1057 n1058 n1059 n1060 n1061 n1062 n1063 n1064 n1065 n1066 n1067 n1068 n1069 n1070 n1071 n1072 n1073 n1074 n1075 n1076 n1077 n1078 n1079 n1080 n1081 n1082 n1083 n1084 n1085 n1086 n1087 n1088 n1089 n1090 n1091 l1092 n1093 n1094 n1095 n1096 n1097)).bind fun h1099 =>
 w.W2 h1099 (.n h.next) 0 fun n1101 n1103 n1105 n1107 n1109 l1111 l1113 n1115 l1117 l1119 n1121 l1123 n1125 l1127 l1129 n1131 l1133 n1135 n1137 n1139 n1141 n1143 n1145 n1147 n1149 n1151 n1153 n1155 n1157 n1159 n1161 n1163 n1165 l1167 n1169 n1171 n1173 n1175 n1177 n1179 n1181 n1183 n1185 n1187 n1189 n1191 n1193 n1195 n1197 n1199 n1201 n1203 n1205 n1207 n1209 n1211 n1213 n1215 n1217 n1219 n1221 n1223 n1225 n1227 n1229 n1231 n1233 n1235 n1237 n1239 n1241 n1243 n1245 n1247 n1249 n1251 n1253 n1255 n1257 n1259 n1261 n1263 n1265 n1267 n1269 n1271 n1273 n1275 n1277 n1279 n1281 n1283 n1285 n1287 n1289 n1291 n1293 n1295 n1297 n1299 n1301 n1303 n1305 n1307 n1309 n1311 n1313 n1315 n1317 n1319 n1321 n1323 n1325 n1327 n1329 n1331 n1333 n1335 n1337 n1339 n1341 n1343 n1345 n1347 n1349 n1351 n1353 n1355 n1357 n1359 n1361 n1363 n1365 n1367 n1369 n1371 n1373 n1375 n1377 n1379 n1381 n1383 n1385 n1387 n1389 n1391 n1393 n1395 n1397 n1399 n1401 n1403 n1405 n1407 n1409 n1411 n1413 n1415 n1417 n1419 n1421 n1423 n1425 n1427 n1429 n1431 n1433 n1435 n1437 n1439 n1441 n1443 n1445 n1447 n1449 n1451 n1453 n1455 n1457 n1459 n1461 n1463 n1465 n1467 n1469 n1471 n1473 n1475 n1477 n1479 n1481 n1483 n1485 n1487 n1489 n1491 n1493 n1495 n1497 n1499 n1501 n1503 n1505 n1507 n1509 n1511 n1513 n1515 n1517 n1519 n1521 n1523 n1525 n1527 n1529 n1531 n1533 n1535 n1537 n1539 n1541 n1543 n1545 n1547 n1549 n1551 n1553 n1555 n1557 n1559 n1561 n1563 n1565 n1567 n1569 n1571 n1573 n1575 n1577 n1579 n1581 n1583 n1585 n1587 n1589 n1591 n1593 n1595 n1597 n1599 n1601 n1603 n1605 n1607 n1609 n1611 n1613 n1615 l1617 n1619 n1621 n1623 n1625 n1627 =>
 (h1099.st (.n ((h.next + 1) + 1)) 0 (P8 n1101 n1103 n1105 n1107 n1109 l1111 l1113 n1115 l1117 l1119 n1121 l1123 n1125 l1127 l1129 n1131 l1133 n1135 n1137 n1139 n1141 n1143 n1145 n1147 n1149 n1151 n1153 n1155 n1157 n1159 n1161 n1163 n1165 l1167 n1169 n1171 n1173 n1175 n1177 n1179 n1181 n1183 n1185 n1187 n1189 n1191 n1193 n1195 n1197 n1199 n1201 n1203 n1205 n1207 n1209 n1211 n1213 n1215 n1217 n1219 n1221 n1223 n1225 n1227 n1229 n1231 n1233 n1235 n1237 n1239 n1241 n1243 n1245 n1247 n1249 n1251 n1253 n1255 n1257 n1259 n1261 n1263 n1265 n1267 n1269 n1271 n1273 n1275 n1277 n1279 n1281 n1283 n1285 n1287 n1289 n1291 n1293 n1295 n1297 n1299 n1301 n1303 n1305 n1307 n1309 n1311 n1313 n1315 n1317 n1319 n1321 n1323 n1325 n1327 n1329 n1331 n1333 n1335 n1337 n1339 n1341 n1343 n1345 n1347 n1349 n1351 n1353 n1355 n1357 n1359 n1361 n1363 n1365 n1367 n1369 n1371 n1373 n1375 n1377 n1379 n1381 n1383 n1385 n1387 n1389 n1391 n1393 n1395 n1397 n1399 n1401 n1403 n1405 n1407 n1409 n1411 n1413 n1415 n1417 n1419 n1421 n1423 n1425 n1427 n1429 n1431 n1433 n1435 n1437 n1439 n1441 n1443 n1445 n1447 n1449 n1451 n1453 n1455 n1457 n1459 n1461 n1463 n1465 n1467 n1469 n1471 n1473 n1475 n1477 n1479 n1481 n1483 n1485 n1487 n1489 n1491 n1493 n1495 n1497 n1499 n1501 n1503 n1505 n1507 n1509 n1511 n1513 n1515 n1517 n1519 n1521 n1523 n1525 n1527 n1529 n1531 n1533 n1535 n1537 n1539 n1541 n1543 n1545 n1547 n1549 n1551 n1553 n1555 n1557 n1559 n1561 n1563 n1565 n1567 n1569 n1571 n1573 n1575 n1577 n1579 n1581 n1583 n1585 n1587 n1589 n1591 n1593 n1595 n1597 n1599 n1601 n1603 n1605 n1607 n1609 n1611 n1613 n1615 l1617 n1619 n1621 n1623 n1625 n1627)).bind fun h1628 =>
 w.W2 h1628 (.n ((h.next + 1) + 1)) 0 fun n1630 n1632 n1634 n1636 n1638 l1640 l1642 n1644 l1646 l1648 n1650 l1652 n1654 l1656 l1658 n1660 l1662 n1664 n1666 n1668 n1670 n1672 n1674 n1676 n1678 n1680 n1682 n1684 n1686 n1688 n1690 n1692 n1694 l1696 n1698 n1700 n1702 n1704 n1706 n1708 n1710 n1712 n1714 n1716 n1718 n1720 n1722 n1724 n1726 n1728 n1730 n1732 n1734 n1736 n1738 n1740 n1742 n1744 n1746 n1748 n1750 n1752 n1754 n1756 n1758 n1760 n1762 n1764 n1766 n1768 n1770 n1772 n1774 n1776 n1778 n1780 n1782 n1784 n1786 n1788 n1790 n1792 n1794 n1796 n1798 n1800 n1802 n1804 n1806 n1808 n1810 n1812 n1814 n1816 n1818 n1820 n1822 n1824 n1826 n1828 n1830 n1832 n1834 n1836 n1838 n1840 n1842 n1844 n1846 n1848 n1850 n1852 n1854 n1856 n1858 n1860 n1862 n1864 n1866 n1868 n1870 n1872 n1874 n1876 n1878 n1880 n1882 n1884 n1886 n1888 n1890 n1892 n1894 n1896 n1898 n1900 n1902 n1904 n1906 n1908 n1910 n1912 n1914 n1916 n1918 n1920 n1922 n1924 n1926 n1928 n1930 n1932 n1934 n1936 n1938 n1940 n1942 n1944 n1946 n1948 n1950 n1952 n1954 n1956 n1958 n1960 n1962 n1964 n1966 n1968 n1970 n1972 n1974 n1976 n1978 n1980 n1982 n1984 n1986 n1988 n1990 n1992 n1994 n1996 n1998 n2000 n2002 n2004 n2006 n2008 n2010 n2012 n2014 n2016 n2018 n2020 n2022 n2024 n2026 n2028 n2030 n2032 n2034 n2036 n2038 n2040 n2042 n2044 n2046 n2048 n2050 n2052 n2054 n2056 n2058 n2060 n2062 n2064 n2066 n2068 n2070 n2072 n2074 n2076 n2078 n2080 n2082 n2084 n2086 n2088 n2090 n2092 n2094 n2096 n2098 n2100 n2102 n2104 n2106 n2108 n2110 n2112 n2114 n2116 n2118 n2120 n2122 n2124 n2126 n2128 n2130 n2132 n2134 n2136 n2138 n2140 n2142 n2144 l2146 n2148 n2150 n2152 n2154 n2156 =>
 some ((.tup [(.agg (P8 n1630 n1632 n1634 n1636 n1638 l1640 l1642 n1644 l1646 l1648 n1650 l1652 n1654 l1656 l1658 n1660 l1662 n1664 n1666 n1668 n1670 n1672 n1674 n1676 n1678 n1680 n1682 n1684 n1686 n1688 n1690 n1692 n1694 l1696 n1698 n1700 n1702 n1704 n1706 n1708 n1710 n1712 n1714 n1716 n1718 n1720 n1722 n1724 n1726 n1728 n1730 n1732 n1734 n1736 n1738 n1740 n1742 n1744 n1746 n1748 n1750 n1752 n1754 n1756 n1758 n1760 n1762 n1764 n1766 n1768 n1770 n1772 n1774 n1776 n1778 n1780 n1782 n1784 n1786 n1788 n1790 n1792 n1794 n1796 n1798 n1800 n1802 n1804 n1806 n1808 n1810 n1812 n1814 n1816 n1818 n1820 n1822 n1824 n1826 n1828 n1830 n1832 n1834 n1836 n1838 n1840 n1842 n1844 n1846 n1848 n1850 n1852 n1854 n1856 n1858 n1860 n1862 n1864 n1866 n1868 n1870 n1872 n1874 n1876 n1878 n1880 n1882 n1884 n1886 n1888 n1890 n1892 n1894 n1896 n1898 n1900 n1902 n1904 n1906 n1908 n1910 n1912 n1914 n1916 n1918 n1920 n1922 n1924 n1926 n1928 n1930 n1932 n1934 n1936 n1938 n1940 n1942 n1944 n1946 n1948 n1950 n1952 n1954 n1956 n1958 n1960 n1962 n1964 n1966 n1968 n1970 n1972 n1974 n1976 n1978 n1980 n1982 n1984 n1986 n1988 n1990 n1992 n1994 n1996 n1998 n2000 n2002 n2004 n2006 n2008 n2010 n2012 n2014 n2016 n2018 n2020 n2022 n2024 n2026 n2028 n2030 n2032 n2034 n2036 n2038 n2040 n2042 n2044 n2046 n2048 n2050 n2052 n2054 n2056 n2058 n2060 n2062 n2064 n2066 n2068 n2070 n2072 n2074 n2076 n2078 n2080 n2082 n2084 n2086 n2088 n2090 n2092 n2094 n2096 n2098 n2100 n2102 n2104 n2106 n2108 n2110 n2112 n2114 n2116 n2118 n2120 n2122 n2124 n2126 n2128 n2130 n2132 n2134 n2136 n2138 n2140 n2142 n2144 l2146 n2148 n2150 n2152 n2154 n2156)), (.b ((n294 : Int) == n1098))]), h1628)
 else (bif ((n277 : Int) == 1) then
 (k85 [(.p p0)] h275).bind fun r2157 =>
 (AV.asTup 2 r2157.1).bind fun c2158 =>
 I6 c2158 0 fun n2159 => I6 c2158 1 fun n2160 => w.W2 r2157.2 (.n h.next) 0 fun n2162 n2164 n2166 n2168 n2170 l2172 l2174 n2176 l2178 l2180 n2182 l2184 n2186 l2188 l2190 n2192 l2194 n2196 n2198 n2200 n2202 n2204 n2206 n2208 n2210 n2212 n2214 n2216 n2218 n2220 n2222 n2224 n2226 l2228 n2230 n2232 n2234 n2236 n2238 n2240 n2242 n2244 n2246 n2248 n2250 n2252 n2254 n2256 n2258 n2260 n2262 n2264 n2266 n2268 n2270 n2272 n2274 n2276 n2278 n2280 n2282 n2284 n2286 n2288 n2290 n2292 n2294 n2296 n2298 n2300 n2302 n2304 n2306 n2308 n2310 n2312 n2314 n2316 n2318 n2320 n2322 n2324 n2326 n2328 n2330 n2332 n2334 n2336 n2338 n2340 n2342 n2344 n2346 n2348 n2350 n2352 n2354 n2356 n2358 n2360 n2362 n2364 n2366 n2368 n2370 n2372 n2374 n2376 n2378 n2380 n2382 n2384 n2386 n2388 n2390 n2392 n2394 n2396 n2398 n2400 n2402 n2404 n2406 n2408 n2410 n2412 n2414 n2416 n2418 n2420 n2422 n2424 n2426 n2428 n2430 n2432 n2434 n2436 n2438 n2440 n2442 n2444 n2446 n2448 n2450 n2452 n2454 n2456 n2458 n2460 n2462 n2464 n2466 n2468 n2470 n2472 n2474 n2476 n2478 n2480 n2482 n2484 n2486 n2488 n2490 n2492 n2494 n2496 n2498 n2500 n2502 n2504 n2506 n2508 n2510 n2512 n2514 n2516 n2518 n2520 n2522 n2524 n2526 n2528 n2530 n2532 n2534 n2536 n2538 n2540 n2542 n2544 n2546 n2548 n2550 n2552 n2554 n2556 n2558 n2560 n2562 n2564 n2566 n2568 n2570 n2572 n2574 n2576 n2578 n2580 n2582 n2584 n2586 n2588 n2590 n2592 n2594 n2596 n2598 n2600 n2602 n2604 n2606 n2608 n2610 n2612 n2614 n2616 n2618 n2620 n2622 n2624 n2626 n2628 n2630 n2632 n2634 n2636 n2638 n2640 n2642 n2644 n2646 n2648 n2650 n2652 n2654 n2656 n2658 n2660 n2662 n2664 n2666 n2668 n2670 n2672 n2674 n2676 l2678 n2680 n2682 n2684 n2686 n2688 =>
 (k86 [(.agg (P8 n2162 n2164 n2166 n2168 n2170 l2172 l2174 n2176 l2178 l2180 n2182 l2184 n2186 l2188 l2190 n2192 l2194 n2196 n2198 n2200 n2202 n2204 n2206 n2208 n2210 n2212 n2214 n2216 n2218 n2220 n2222 n2224 n2226 l2228 n2230 n2232 n2234 n2236 n2238 n2240 n2242 n2244 n2246 n2248 n2250 n2252 n2254 n2256 n2258 n2260 n2262 n2264 n2266 n2268 n2270 n2272 n2274 n2276 n2278 n2280 n2282 n2284 n2286 n2288 n2290 n2292 n2294 n2296 n2298 n2300 n2302 n2304 n2306 n2308 n2310 n2312 n2314 n2316 n2318 n2320 n2322 n2324 n2326 n2328 n2330 n2332 n2334 n2336 n2338 n2340 n2342 n2344 n2346 n2348 n2350 n2352 n2354 n2356 n2358 n2360 n2362 n2364 n2366 n2368 n2370 n2372 n2374 n2376 n2378 n2380 n2382 n2384 n2386 n2388 n2390 n2392 n2394 n2396 n2398 n2400 n2402 n2404 n2406 n2408 n2410 n2412 n2414 n2416 n2418 n2420 n2422 n2424 n2426 n2428 n2430 n2432 n2434 n2436 n2438 n2440 n2442 n2444 n2446 n2448 n2450 n2452 n2454 n2456 n2458 n2460 n2462 n2464 n2466 n2468 n2470 n2472 n2474 n2476 n2478 n2480 n2482 n2484 n2486 n2488 n2490 n2492 n2494 n2496 n2498 n2500 n2502 n2504 n2506 n2508 n2510 n2512 n2514 n2516 n2518 n2520 n2522 n2524 n2526 n2528 n2530 n2532 n2534 n2536 n2538 n2540 n2542 n2544 n2546 n2548 n2550 n2552 n2554 n2556 n2558 n2560 n2562 n2564 n2566 n2568 n2570 n2572 n2574 n2576 n2578 n2580 n2582 n2584 n2586 n2588 n2590 n2592 n2594 n2596 n2598 n2600 n2602 n2604 n2606 n2608 n2610 n2612 n2614 n2616 n2618 n2620 n2622 n2624 n2626 n2628 n2630 n2632 n2634 n2636 n2638 n2640 n2642 n2644 n2646 n2648 n2650 n2652 n2654 n2656 n2658 n2660 n2662 n2664 n2666 n2668 n2670 n2672 n2674 n2676 l2678 n2680 n2682 n2684 n2686 n2688))] r2157.2).bind fun r2689 =>
 (AV.asTup 3 r2689.1).bind fun c2690 =>
 (AV.asAgg 264 (c2690.getD 0 .u)).bind fun c2691 =>
 w.U2 c2691 fun n2692 n2693 n2694 n2695 n2696 l2697 l2698 n2699 l2700 l2701 n2702 l2703 n2704 l2705 l2706 n2707 l2708 n2709 n2710 n2711 n2712 n2713 n2714 n2715 n2716 n2717 n2718 n2719 n2720 n2721 n2722 n2723 n2724 l2725 n2726 n2727 n2728 n2729 n2730 n2731 n2732 n2733 n2734 n2735 n2736 n2737 n2738 n2739 n2740 n2741 n2742 n2743 n2744 n2745 n2746 n2747 n2748 n2749 n2750 n2751 n2752 n2753 n2754 n2755 n2756 n2757 n2758 n2759 n2760 n2761 n2762 n2763 n2764 n2765 n2766 n2767 n2768 n2769 n2770 n2771 n2772 n2773 n2774 n2775 n2776 n2777 n2778 n2779 n2780 n2781 n2782 n2783 n2784 n2785 n2786 n2787 n2788 n2789 n2790 n2791 n2792 n2793 n2794 n2795 n2796 n2797 n2798 n2799 n2800 n2801 n2802 n2803 n2804 n2805 n2806 n2807 n2808 n2809 n2810 n2811 n2812 n2813 n2814 n2815 n2816 n2817 n2818 n2819 n2820 n2821 n2822 n2823 n2824 n2825 n2826 n2827 n2828 n2829 n2830 n2831 n2832 n2833 n2834 n2835 n2836 n2837 n2838 n2839 n2840 n2841 n2842 n2843 n2844 n2845 n2846 n2847 n2848 n2849 n2850 n2851 n2852 n2853 n2854 n2855 n2856 n2857 n2858 n2859 n2860 n2861 n2862 n2863 n2864 n2865 n2866 n2867 n2868 n2869 n2870 n2871 n2872 n2873 n2874 n2875 n2876 n2877 n2878 n2879 n2880 n2881 n2882 n2883 n2884 n2885 n2886 n2887 n2888 n2889 n2890 n2891 n2892 n2893 n2894 n2895 n2896 n2897 n2898 n2899 n2900 n2901 n2902 n2903 n2904 n2905 n2906 n2907 n2908 n2909 n2910 n2911 n2912 n2913 n2914 n2915 n2916 n2917 n2918 n2919 n2920 n2921 n2922 n2923 n2924 n2925 n2926 n2927 n2928 n2929 n2930 n2931 n2932 n2933 n2934 n2935 n2936 n2937 n2938 n2939 n2940 n2941 n2942 n2943 n2944 n2945 n2946 n2947 n2948 n2949 l2950 n2951 n2952 n2953 n2954 n2955 =>
 I6 c2690 1 fun n2956 => I6 c2690 2 fun n2957 => (r2689.2.st (.n h.next) 0 (P8 n2692 n2693 n2694 n2695 n2696 l2697 l2698 n2699 l2700 l2701 n2702 l2703 n2704 l2705 l2706 n2707 l2708 n2709 n2710 n2711 n2712 n2713 n2714 n2715 n2716 n2717 n2718 n2719 n2720 n2721 n2722 n2723 n2724 l2725 n2726 n2727 n2728 n2729 n2730 n2731 n2732 n2733 n2734 n2735 n2736 n2737 n2738 n2739 n2740 n2741 n2742 n2743 n2744 n2745 n2746 n2747 n2748 n2749 n2750 n2751 n2752 n2753 n2754 n2755 n2756 n2757 n2758 n2759 n2760 n2761 n2762 n2763 n2764 n2765 n2766 n2767 n2768 n2769 n2770 n2771 n2772 n2773 n2774 n2775 n2776 n2777 n2778 n2779 n2780 n2781 n2782 n2783 n2784 n2785 n2786 n2787 n2788 n2789 n2790 n2791 n2792 n2793 n2794 n2795 n2796 n2797 n2798 n2799 n2800 n2801 n2802 n2803 n2804 n2805 n2806 n2807 n2808 n2809 n2810 n2811 n2812 n2813 n2814 n2815 n2816 n2817 n2818 n2819 n2820 n2821 n2822 n2823 n2824 n2825 n2826 n2827 n2828 n2829 n2830 n2831 n2832 n2833 n2834 n2835 n2836 n2837 n2838 n2839 n2840 n2841 n2842 n2843 n2844 n2845 n2846 n2847 n2848 n2849 n2850 n2851 n2852 n2853 n2854 n2855 n2856 n2857 n2858 n2859 n2860 n2861 n2862 n2863 n2864 n2865 n2866 n2867 n2868 n2869 n2870 n2871 n2872 n2873 n2874 n2875 n2876 n2877 n2878 n2879 n2880 n2881 n2882 n2883 n2884 n2885 n2886 n2887 n2888 n2889 n2890 n2891 n2892 n2893 n2894 n2895 n2896 n2897 n2898 n2899 n2900 n2901 n2902 n2903 n2904 n2905 n2906 n2907 n2908 n2909 n2910 n2911 n2912 n2913 n2914 n2915 n2916 n2917 n2918 n2919 n2920 n2921 n2922 n2923 n2924 n2925 n2926 n2927 n2928 n2929 n2930 n2931 n2932 n2933 n2934 n2935 n2936 n2937 n2938 n2939 n2940 n2941 n2942 n2943 n2944 n2945 n2946 n2947 n2948 n2949 l2950 n2951 n2952 n2953 n2954 n2955)).bind fun h2958 =>
 w.W2 h2958 (.n h.next) 0 fun n2960 n2962 n2964 n2966 n2968 l2970 l2972 n2974 l2976 l2978 n2980 l2982 n2984 l2986 l2988 n2990 l2992 n2994 n2996 n2998 n3000 n3002 n3004 n3006 n3008 n3010 n3012 n3014 n3016 n3018 n3020 n3022 n3024 l3026 n3028 n3030 n3032 n3034 n3036 n3038 n3040 n3042 n3044 n3046 n3048 n3050 n3052 n3054 n3056 n3058 n3060 n3062 n3064 n3066 n3068 n3070 n3072 n3074 n3076 n3078 n3080 n3082 n3084 n3086 n3088 n3090 n3092 n3094 n3096 n3098 n3100 n3102 n3104 n3106 n3108 n3110 n3112 n3114 n3116 n3118 n3120 n3122 n3124 n3126 n3128 n3130 n3132 n3134 n3136 n3138 n3140 n3142 n3144 n3146 n3148 n3150 n3152 n3154 n3156 n3158 n3160 n3162 n3164 n3166 n3168 n3170 n3172 n3174 n3176 n3178 n3180 n3182 n3184 n3186 n3188 n3190 n3192 n3194 n3196 n3198 n3200 n3202 n3204 n3206 n3208 n3210 n3212 n3214 n3216 n3218 n3220 n3222 n3224 n3226 n3228 n3230 n3232 n3234 n3236 n3238 n3240 n3242 n3244 n3246 n3248 n3250 n3252 n3254 n3256 n3258 n3260 n3262 n3264 n3266 n3268 n3270 n3272 n3274 n3276 n3278 n3280 n3282 n3284 n3286 n3288 n3290 n3292 n3294 n3296 n3298 n3300 n3302 n3304 n3306 n3308 n3310 n3312 n3314 n3316 n3318 n3320 n3322 n3324 n3326 n3328 n3330 n3332 n3334 n3336 n3338 n3340 n3342 n3344 n3346 n3348 n3350 n3352 n3354 n3356 n3358 n3360 n3362 n3364 n3366 n3368 n3370 n3372 n3374 n3376 n3378 n3380 n3382 n3384 n3386 n3388 n3390 n3392 n3394 n3396 n3398 n3400 n3402 n3404 n3406 n3408 n3410 n3412 n3414 n3416 n3418 n3420 n3422 n3424 n3426 n3428 n3430 n3432 n3434 n3436 n3438 n3440 n3442 n3444 n3446 n3448 n3450 n3452 n3454 n3456 n3458 n3460 n3462 n3464 n3466 n3468 n3470 n3472 n3474 l3476 n3478 n3480 n3482 n3484 n3486 =>
 ((bif (((n2159 : Int) == n2956) == true) then
 some ([(.b ((n2160 : Int) == n2957))], h2958)
 else some ([(.b false)], h2958)) : Option (List AV × AH O)).bind fun r3487 =>
 (AV.asB (r3487.1.getD 0 .u)).bind fun b3488 =>
 (r3487.2.st (.n ((h.next + 1) + 1)) 0 (P8 n2960 n2962 n2964 n2966 n2968 l2970 l2972 n2974 l2976 l2978 n2980 l2982 n2984 l2986 l2988 n2990 l2992 n2994 n2996 n2998 n3000 n3002 n3004 n3006 n3008 n3010 n3012 n3014 n3016 n3018 n3020 n3022 n3024 l3026 n3028 n3030 n3032 n3034 n3036 n3038 n3040 n3042 n3044 n3046 n3048 n3050 n3052 n3054 n3056 n3058 n3060 n3062 n3064 n3066 n3068 n3070 n3072 n3074 n3076 n3078 n3080 n3082 n3084 n3086 n3088 n3090 n3092 n3094 n3096 n3098 n3100 n3102 n3104 n3106 n3108 n3110 n3112 n3114 n3116 n3118 n3120 n3122 n3124 n3126 n3128 n3130 n3132 n3134 n3136 n3138 n3140 n3142 n3144 n3146 n3148 n3150 n3152 n3154 n3156 n3158 n3160 n3162 n3164 n3166 n3168 n3170 n3172 n3174 n3176 n3178 n3180 n3182 n3184 n3186 n3188 n3190 n3192 n3194 n3196 n3198 n3200 n3202 n3204 n3206 n3208 n3210 n3212 n3214 n3216 n3218 n3220 n3222 n3224 n3226 n3228 n3230 n3232 n3234 n3236 n3238 n3240 n3242 n3244 n3246 n3248 n3250 n3252 n3254 n3256 n3258 n3260 n3262 n3264 n3266 n3268 n3270 n3272 n3274 n3276 n3278 n3280 n3282 n3284 n3286 n3288 n3290 n3292 n3294 n3296 n3298 n3300 n3302 n3304 n3306 n3308 n3310 n3312 n3314 n3316 n3318 n3320 n3322 n3324 n3326 n3328 n3330 n3332 n3334 n3336 n3338 n3340 n3342 n3344 n3346 n3348 n3350 n3352 n3354 n3356 n3358 n3360 n3362 n3364 n3366 n3368 n3370 n3372 n3374 n3376 n3378 n3380 n3382 n3384 n3386 n3388 n3390 n3392 n3394 n3396 n3398 n3400 n3402 n3404 n3406 n3408 n3410 n3412 n3414 n3416 n3418 n3420 n3422 n3424 n3426 n3428 n3430 n3432 n3434 n3436 n3438 n3440 n3442 n3444 n3446 n3448 n3450 n3452 n3454 n3456 n3458 n3460 n3462 n3464 n3466 n3468 n3470 n3472 n3474 l3476 n3478 n3480 n3482 n3484 n3486)).bind fun h3489 =>
 w.W2 h3489 (.n ((h.next + 1) + 1)) 0 fun n3491 n3493 n3495 n3497 n3499 l3501 l3503 n3505 l3507 l3509 n3511 l3513 n3515 l3517 l3519 n3521 l3523 n3525 n3527 n3529 n3531 n3533 n3535 n3537 n3539 n3541 n3543 n3545 n3547 n3549 n3551 n3553 n3555 l3557 n3559 n3561 n3563 n3565 n3567 n3569 n3571 n3573 n3575 n3577 n3579 n3581 n3583 n3585 n3587 n3589 n3591 n3593 n3595 n3597 n3599 n3601 n3603 n3605 n3607 n3609 n3611 n3613 n3615 n3617 n3619 n3621 n3623 n3625 n3627 n3629 n3631 n3633 n3635 n3637 n3639 n3641 n3643 n3645 n3647 n3649 n3651 n3653 n3655 n3657 n3659 n3661 n3663 n3665 n3667 n3669 n3671 n3673 n3675 n3677 n3679 n3681 n3683 n3685 n3687 n3689 n3691 n3693 n3695 n3697 n3699 n3701 n3703 n3705 n3707 n3709 n3711 n3713 n3715 n3717 n3719 n3721 n3723 n3725 n3727 n3729 n3731 n3733 n3735 n3737 n3739 n3741 n3743 n3745 n3747 n3749 n3751 n3753 n3755 n3757 n3759 n3761 n3763 n3765 n3767 n3769 n3771 n3773 n3775 n3777 n3779 n3781 n3783 n3785 n3787 n3789 n3791 n3793 n3795 n3797 n3799 n3801 n3803 n3805 n3807 n3809 n3811 n3813 n3815 n3817 n3819 n3821 n3823 n3825 n3827 n3829 n3831 n3833 n3835 n3837 n3839 n3841 n3843 n3845 n3847 n3849 n3851 n3853 n3855 n3857 n3859 n3861 n3863 n3865 n3867 n3869 n3871 n3873 n3875 n3877 n3879 n3881 n3883 n3885 n3887 n3889 n3891 n3893 n3895 n3897 n3899 n3901 n3903 n3905 n3907 n3909 n3911 n3913 n3915 n3917 n3919 n3921 n3923 n3925 n3927 n3929 n3931 n3933 n3935 n3937 n3939 n3941 n3943 n3945 n3947 n3949 n3951 n3953 n3955 n3957 n3959 n3961 n3963 n3965 n3967 n3969 n3971 n3973 n3975 n3977 n3979 n3981 n3983 n3985 n3987 n3989 n3991 n3993 n3995 n3997 n3999 n4001 n4003 n4005 l4007 n4009 n4011 n4013 n4015 n4017 =>
 some ((.tup [(.agg (P8 n3491 n3493 n3495 n3497 n3499 l3501 l3503 n3505 l3507 l3509 n3511 l3513 n3515 l3517 l3519 n3521 l3523 n3525 n3527 n3529 n3531 n3533 n3535 n3537 n3539 n3541 n3543 n3545 n3547 n3549 n3551 n3553 n3555 l3557 n3559 n3561 n3563 n3565 n3567 n3569 n3571 n3573 n3575 n3577 n3579 n3581 n3583 n3585 n3587 n3589 n3591 n3593 n3595 n3597 n3599 n3601 n3603 n3605 n3607 n3609 n3611 n3613 n3615 n3617 n3619 n3621 n3623 n3625 n3627 n3629 n3631 n3633 n3635 n3637 n3639 n3641 n3643 n3645 n3647 n3649 n3651 n3653 n3655 n3657 n3659 n3661 n3663 n3665 n3667 n3669 n3671 n3673 n3675 n3677 n3679 n3681 n3683 n3685 n3687 n3689 n3691 n3693 n3695 n3697 n3699 n3701 n3703 n3705 n3707 n3709 n3711 n3713 n3715 n3717 n3719 n3721 n3723 n3725 n3727 n3729 n3731 n3733 n3735 n3737 n3739 n3741 n3743 n3745 n3747 n3749 n3751 n3753 n3755 n3757 n3759 n3761 n3763 n3765 n3767 n3769 n3771 n3773 n3775 n3777 n3779 n3781 n3783 n3785 n3787 n3789 n3791 n3793 n3795 n3797 n3799 n3801 n3803 n3805 n3807 n3809 n3811 n3813 n3815 n3817 n3819 n3821 n3823 n3825 n3827 n3829 n3831 n3833 n3835 n3837 n3839 n3841 n3843 n3845 n3847 n3849 n3851 n3853 n3855 n3857 n3859 n3861 n3863 n3865 n3867 n3869 n3871 n3873 n3875 n3877 n3879 n3881 n3883 n3885 n3887 n3889 n3891 n3893 n3895 n3897 n3899 n3901 n3903 n3905 n3907 n3909 n3911 n3913 n3915 n3917 n3919 n3921 n3923 n3925 n3927 n3929 n3931 n3933 n3935 n3937 n3939 n3941 n3943 n3945 n3947 n3949 n3951 n3953 n3955 n3957 n3959 n3961 n3963 n3965 n3967 n3969 n3971 n3973 n3975 n3977 n3979 n3981 n3983 n3985 n3987 n3989 n3991 n3993 n3995 n3997 n3999 n4001 n4003 n4005 l4007 n4009 n4011 n4013 n4015 n4017)), (.b b3488)]), h3489)
 else none))
 else none
def law33_grants_c (k83 k84 k85 k86 : Sm O) : Sm O := law33_grants_p fastWords k83 k84 k85 k86
def law33_grants : Sm O := law33_grants_c heap_Heap__Alloc haymowref33_Alloc heap_Heap__Global haymowref33_Global
theorem law33_grants_ent : Entered Tryz.prog 59 := Tryz.call59
theorem law33_grants_run (k83 k84 k85 k86 : Sm O) : run (O := O) Tryz.prog [(83, k83), (84, k84), (85, k85), (86, k86)] Tryz.f59 (.n .z (.n .z (.n (.n .z (.n (.n .z (.n (.n .z (.n .z (.n .z .z))) (.n .z (.n (.n .z (.n .z (.n (.g [(4, 3, [(68, .one .b)])]) .z))) .x)))) .z)) (.n .z (.n .z (.n (.g [(4, 3, [(109, .one .b)])]) .z)))))) = law33_grants_c k83 k84 k85 k86 :=
 (show run (O := O) Tryz.prog [(83, k83), (84, k84), (85, k85), (86, k86)] Tryz.f59 (.n .z (.n .z (.n (.n .z (.n (.n .z (.n (.n .z (.n .z (.n .z .z))) (.n .z (.n (.n .z (.n .z (.n (.g [(4, 3, [(68, .one .b)])]) .z))) .x)))) .z)) (.n .z (.n .z (.n (.g [(4, 3, [(109, .one .b)])]) .z)))))) = law33_grants_p slowWords k83 k84 k85 k86 by kernel_rfl).trans (congrArg (fun w => law33_grants_p w k83 k84 k85 k86) words_eq)
theorem law33_grants_sound : FSound RO Tryz.prog 59 law33_grants := sdf (law33_grants_run _ _ _ _) (gcons heap_Heap__Alloc_ent heap_Heap__Alloc_sound <| gcons haymowref33_Alloc_ent haymowref33_Alloc_sound <| gcons heap_Heap__Global_ent heap_Heap__Global_sound <| gcons haymowref33_Global_ent haymowref33_Global_sound <| gnil) Tryz.func59 (by kernel_rfl)
def heap_Heap__Store_c (k174 k115 : Sm O) : Sm O := fun xs h =>
 bif Nat.beq xs.length 4 then
 (AV.asP (xs.getD 0 .u)).bind fun p0 =>
 (AV.asI .i64 (xs.getD 1 .u)).bind fun n1 =>
 (AV.asI .i64 (xs.getD 2 .u)).bind fun n2 =>
 (AV.asI .i64 (xs.getD 3 .u)).bind fun n3 =>
 let h4 := h.bump 4
 let h5 := h4.put h.next (.cells true 40 [(.p p0)])
 let h6 := h5.put (h.next + 1) (.cells true 3 [J n1])
 let h7 := h6.put ((h.next + 1) + 1) (.cells true 3 [J n2])
 let h8 := h7.put (((h.next + 1) + 1) + 1) (.cells true 3 [J n3])
 (h8.ld (.n h.next) 0).bind fun w9 =>
 (AV.asP w9).bind fun p10 =>
 (k115 [(.p p10), (.fn (some (.func 174, [], [(.p (some ((.n h.next), 0))), (.p (some ((.n (h.next + 1)), 0))), (.p (some ((.n ((h.next + 1) + 1)), 0))), (.p (some ((.n (((h.next + 1) + 1) + 1)), 0)))])))] h8).bind fun r11 =>
 (AV.asI .i64 r11.1).bind fun n12 =>
 some (J n12, r11.2)
 else none
def heap_Heap__Store : Sm O := heap_Heap__Store_c heap_Heap__Store_1 heap_Heap__call
theorem heap_Heap__Store_ent : Entered Tryz.prog 105 := Tryz.call105
theorem heap_Heap__Store_run (k174 k115 : Sm O) : run (O := O) Tryz.prog [(174, k174), (115, k115)] Tryz.f105 (.n .z .z) = heap_Heap__Store_c k174 k115 := by kernel_rfl
theorem heap_Heap__Store_sound : FSound RO Tryz.prog 105 heap_Heap__Store := sdf (heap_Heap__Store_run _ _) (gcons heap_Heap__Store_1_ent heap_Heap__Store_1_sound <| gcons heap_Heap__call_ent heap_Heap__call_sound <| gnil) Tryz.func105 (by kernel_rfl)
def haymowref33_Object_p (w : Words O) (k141 : Sm O) : Sm O := fun xs h =>
 bif Nat.beq xs.length 2 then
 (AV.asAgg 264 (xs.getD 0 .u)).bind fun c0 =>
 w.U2 c0 fun n1 n2 n3 n4 n5 l6 l7 n8 l9 l10 n11 l12 n13 l14 l15 n16 l17 n18 n19 n20 n21 n22 n23 n24 n25 n26 n27 n28 n29 n30 n31 n32 n33 l34 n35 n36 n37 n38 n39 n40 n41 n42 n43 n44 n45 n46 n47 n48 n49 n50 n51 n52 n53 n54 n55 n56 n57 n58 n59 n60 n61 n62 n63 n64 n65 n66 n67 n68 n69 n70 n71 n72 n73 n74 n75 n76 n77 n78 n79 n80 n81 n82 n83 n84 n85 n86 n87 n88 n89 n90 n91 n92 n93 n94 n95 n96 n97 n98 n99 n100 n101 n102 n103 n104 n105 n106 n107 n108 n109 n110 n111 n112 n113 n114 n115 n116 n117 n118 n119 n120 n121 n122 n123 n124 n125 n126 n127 n128 n129 n130 n131 n132 n133 n134 n135 n136 n137 n138 n139 n140 n141 n142 n143 n144 n145 n146 n147 n148 n149 n150 n151 n152 n153 n154 n155 n156 n157 n158 n159 n160 n161 n162 n163 n164 n165 n166 n167 n168 n169 n170 n171 n172 n173 n174 n175 n176 n177 n178 n179 n180 n181 n182 n183 n184 n185 n186 n187 n188 n189 n190 n191 n192 n193 n194 n195 n196 n197 n198 n199 n200 n201 n202 n203 n204 n205 n206 n207 n208 n209 n210 n211 n212 n213 n214 n215 n216 n217 n218 n219 n220 n221 n222 n223 n224 n225 n226 n227 n228 n229 n230 n231 n232 n233 n234 n235 n236 n237 n238 n239 n240 n241 n242 n243 n244 n245 n246 n247 n248 n249 n250 n251 n252 n253 n254 n255 n256 n257 n258 l259 n260 n261 n262 n263 n264 =>
 (AV.asI .i64 (xs.getD 1 .u)).bind fun n265 =>
 let h266 := h.bump 1
 let h267 := h266.put h.next (.cells true 62 (P8 n1 n2 n3 n4 n5 l6 l7 n8 l9 l10 n11 l12 n13 l14 l15 n16 l17 n18 n19 n20 n21 n22 n23 n24 n25 n26 n27 n28 n29 n30 n31 n32 n33 l34 n35 n36 n37 n38 n39 n40 n41 n42 n43 n44 n45 n46 n47 n48 n49 n50 n51 n52 n53 n54 n55 n56 n57 n58 n59 n60 n61 n62 n63 n64 n65 n66 n67 n68 n69 n70 n71 n72 n73 n74 n75 n76 n77 n78 n79 n80 n81 n82 n83 n84 n85 n86 n87 n88 n89 n90 n91 n92 n93 n94 n95 n96 n97 n98 n99 n100 n101 n102 n103 n104 n105 n106 n107 n108 n109 n110 n111 n112 n113 n114 n115 n116 n117 n118 n119 n120 n121 n122 n123 n124 n125 n126 n127 n128 n129 n130 n131 n132 n133 n134 n135 n136 n137 n138 n139 n140 n141 n142 n143 n144 n145 n146 n147 n148 n149 n150 n151 n152 n153 n154 n155 n156 n157 n158 n159 n160 n161 n162 n163 n164 n165 n166 n167 n168 n169 n170 n171 n172 n173 n174 n175 n176 n177 n178 n179 n180 n181 n182 n183 n184 n185 n186 n187 n188 n189 n190 n191 n192 n193 n194 n195 n196 n197 n198 n199 n200 n201 n202 n203 n204 n205 n206 n207 n208 n209 n210 n211 n212 n213 n214 n215 n216 n217 n218 n219 n220 n221 n222 n223 n224 n225 n226 n227 n228 n229 n230 n231 n232 n233 n234 n235 n236 n237 n238 n239 n240 n241 n242 n243 n244 n245 n246 n247 n248 n249 n250 n251 n252 n253 n254 n255 n256 n257 n258 l259 n260 n261 n262 n263 n264))
 w.W2 h267 (.n h.next) 0 fun n269 n271 n273 n275 n277 l279 l281 n283 l285 l287 n289 l291 n293 l295 l297 n299 l301 n303 n305 n307 n309 n311 n313 n315 n317 n319 n321 n323 n325 n327 n329 n331 n333 l335 n337 n339 n341 n343 n345 n347 n349 n351 n353 n355 n357 n359 n361 n363 n365 n367 n369 n371 n373 n375 n377 n379 n381 n383 n385 n387 n389 n391 n393 n395 n397 n399 n401 n403 n405 n407 n409 n411 n413 n415 n417 n419 n421 n423 n425 n427 n429 n431 n433 n435 n437 n439 n441 n443 n445 n447 n449 n451 n453 n455 n457 n459 n461 n463 n465 n467 n469 n471 n473 n475 n477 n479 n481 n483 n485 n487 n489 n491 n493 n495 n497 n499 n501 n503 n505 n507 n509 n511 n513 n515 n517 n519 n521 n523 n525 n527 n529 n531 n533 n535 n537 n539 n541 n543 n545 n547 n549 n551 n553 n555 n557 n559 n561 n563 n565 n567 n569 n571 n573 n575 n577 n579 n581 n583 n585 n587 n589 n591 n593 n595 n597 n599 n601 n603 n605 n607 n609 n611 n613 n615 n617 n619 n621 n623 n625 n627 n629 n631 n633 n635 n637 n639 n641 n643 n645 n647 n649 n651 n653 n655 n657 n659 n661 n663 n665 n667 n669 n671 n673 n675 n677 n679 n681 n683 n685 n687 n689 n691 n693 n695 n697 n699 n701 n703 n705 n707 n709 n711 n713 n715 n717 n719 n721 n723 n725 n727 n729 n731 n733 n735 n737 n739 n741 n743 n745 n747 n749 n751 n753 n755 n757 n759 n761 n763 n765 n767 n769 n771 n773 n775 n777 n779 n781 n783 l785 n787 n789 n791 n793 n795 =>
 (k141 [(.agg (P8 n269 n271 n273 n275 n277 l279 l281 n283 l285 l287 n289 l291 n293 l295 l297 n299 l301 n303 n305 n307 n309 n311 n313 n315 n317 n319 n321 n323 n325 n327 n329 n331 n333 l335 n337 n339 n341 n343 n345 n347 n349 n351 n353 n355 n357 n359 n361 n363 n365 n367 n369 n371 n373 n375 n377 n379 n381 n383 n385 n387 n389 n391 n393 n395 n397 n399 n401 n403 n405 n407 n409 n411 n413 n415 n417 n419 n421 n423 n425 n427 n429 n431 n433 n435 n437 n439 n441 n443 n445 n447 n449 n451 n453 n455 n457 n459 n461 n463 n465 n467 n469 n471 n473 n475 n477 n479 n481 n483 n485 n487 n489 n491 n493 n495 n497 n499 n501 n503 n505 n507 n509 n511 n513 n515 n517 n519 n521 n523 n525 n527 n529 n531 n533 n535 n537 n539 n541 n543 n545 n547 n549 n551 n553 n555 n557 n559 n561 n563 n565 n567 n569 n571 n573 n575 n577 n579 n581 n583 n585 n587 n589 n591 n593 n595 n597 n599 n601 n603 n605 n607 n609 n611 n613 n615 n617 n619 n621 n623 n625 n627 n629 n631 n633 n635 n637 n639 n641 n643 n645 n647 n649 n651 n653 n655 n657 n659 n661 n663 n665 n667 n669 n671 n673 n675 n677 n679 n681 n683 n685 n687 n689 n691 n693 n695 n697 n699 n701 n703 n705 n707 n709 n711 n713 n715 n717 n719 n721 n723 n725 n727 n729 n731 n733 n735 n737 n739 n741 n743 n745 n747 n749 n751 n753 n755 n757 n759 n761 n763 n765 n767 n769 n771 n773 n775 n777 n779 n781 n783 l785 n787 n789 n791 n793 n795)), J n265] h267).bind fun r796 =>
 (AV.asTup 2 r796.1).bind fun c797 =>
 I6 c797 0 fun n798 => I6 c797 1 fun n799 => ((bif (((n799 : Int) == 0) == true) then
 some ([(.b (decide (n798 < 0)))], r796.2)
 else some ([(.b false)], r796.2)) : Option (List AV × AH O)).bind fun r800 =>
 (AV.asB (r800.1.getD 0 .u)).bind fun b801 =>
 (bif b801 then
 none
 else some ((.tup [J n798, J n799]), r800.2))
 else none
def haymowref33_Object_c (k141 : Sm O) : Sm O := haymowref33_Object_p fastWords k141
def haymowref33_Object : Sm O := haymowref33_Object_c haymowref33_Get
theorem haymowref33_Object_ent : Entered Tryz.prog 158 := Tryz.call158
theorem haymowref33_Object_run (k141 : Sm O) : run (O := O) Tryz.prog [(141, k141)] Tryz.f158 (.n .z (.n .z (.n (.n (.g [(2, 2, [(19, .one .b)])]) (.n .x .z)) .z))) = haymowref33_Object_c k141 :=
 (show run (O := O) Tryz.prog [(141, k141)] Tryz.f158 (.n .z (.n .z (.n (.n (.g [(2, 2, [(19, .one .b)])]) (.n .x .z)) .z))) = haymowref33_Object_p slowWords k141 by kernel_rfl).trans (congrArg (fun w => haymowref33_Object_p w k141) words_eq)
theorem haymowref33_Object_sound : FSound RO Tryz.prog 158 haymowref33_Object := sdf (haymowref33_Object_run _) (gcons haymowref33_Get_ent haymowref33_Get_sound <| gnil) Tryz.func158 (by kernel_rfl)
def haymowref33_Store_p (w : Words O) (k158 k141 : Sm O) : Sm O := fun xs h =>
 bif Nat.beq xs.length 4 then
 (AV.asAgg 264 (xs.getD 0 .u)).bind fun c0 =>
 w.U2 c0 fun n1 n2 n3 n4 n5 l6 l7 n8 l9 l10 n11 l12 n13 l14 l15 n16 l17 n18 n19 n20 n21 n22 n23 n24 n25 n26 n27 n28 n29 n30 n31 n32 n33 l34 n35 n36 n37 n38 n39 n40 n41 n42 n43 n44 n45 n46 n47 n48 n49 n50 n51 n52 n53 n54 n55 n56 n57 n58 n59 n60 n61 n62 n63 n64 n65 n66 n67 n68 n69 n70 n71 n72 n73 n74 n75 n76 n77 n78 n79 n80 n81 n82 n83 n84 n85 n86 n87 n88 n89 n90 n91 n92 n93 n94 n95 n96 n97 n98 n99 n100 n101 n102 n103 n104 n105 n106 n107 n108 n109 n110 n111 n112 n113 n114 n115 n116 n117 n118 n119 n120 n121 n122 n123 n124 n125 n126 n127 n128 n129 n130 n131 n132 n133 n134 n135 n136 n137 n138 n139 n140 n141 n142 n143 n144 n145 n146 n147 n148 n149 n150 n151 n152 n153 n154 n155 n156 n157 n158 n159 n160 n161 n162 n163 n164 n165 n166 n167 n168 n169 n170 n171 n172 n173 n174 n175 n176 n177 n178 n179 n180 n181 n182 n183 n184 n185 n186 n187 n188 n189 n190 n191 n192 n193 n194 n195 n196 n197 n198 n199 n200 n201 n202 n203 n204 n205 n206 n207 n208 n209 n210 n211 n212 n213 n214 n215 n216 n217 n218 n219 n220 n221 n222 n223 n224 n225 n226 n227 n228 n229 n230 n231 n232 n233 n234 n235 n236 n237 n238 n239 n240 n241 n242 n243 n244 n245 n246 n247 n248 n249 n250 n251 n252 n253 n254 n255 n256 n257 n258 l259 n260 n261 n262 n263 n264 =>
 (AV.asI .i64 (xs.getD 1 .u)).bind fun n265 =>
 (AV.asI .i64 (xs.getD 2 .u)).bind fun n266 =>
 (AV.asI .i64 (xs.getD 3 .u)).bind fun n267 =>
 let h268 := h.bump 2
 let h269 := h268.put h.next (.cells true 62 (P8 n1 n2 n3 n4 n5 l6 l7 n8 l9 l10 n11 l12 n13 l14 l15 n16 l17 n18 n19 n20 n21 n22 n23 n24 n25 n26 n27 n28 n29 n30 n31 n32 n33 l34 n35 n36 n37 n38 n39 n40 n41 n42 n43 n44 n45 n46 n47 n48 n49 n50 n51 n52 n53 n54 n55 n56 n57 n58 n59 n60 n61 n62 n63 n64 n65 n66 n67 n68 n69 n70 n71 n72 n73 n74 n75 n76 n77 n78 n79 n80 n81 n82 n83 n84 n85 n86 n87 n88 n89 n90 n91 n92 n93 n94 n95 n96 n97 n98 n99 n100 n101 n102 n103 n104 n105 n106 n107 n108 n109 n110 n111 n112 n113 n114 n115 n116 n117 n118 n119 n120 n121 n122 n123 n124 n125 n126 n127 n128 n129 n130 n131 n132 n133 n134 n135 n136 n137 n138 n139 n140 n141 n142 n143 n144 n145 n146 n147 n148 n149 n150 n151 n152 n153 n154 n155 n156 n157 n158 n159 n160 n161 n162 n163 n164 n165 n166 n167 n168 n169 n170 n171 n172 n173 n174 n175 n176 n177 n178 n179 n180 n181 n182 n183 n184 n185 n186 n187 n188 n189 n190 n191 n192 n193 n194 n195 n196 n197 n198 n199 n200 n201 n202 n203 n204 n205 n206 n207 n208 n209 n210 n211 n212 n213 n214 n215 n216 n217 n218 n219 n220 n221 n222 n223 n224 n225 n226 n227 n228 n229 n230 n231 n232 n233 n234 n235 n236 n237 n238 n239 n240 n241 n242 n243 n244 n245 n246 n247 n248 n249 n250 n251 n252 n253 n254 n255 n256 n257 n258 l259 n260 n261 n262 n263 n264))
 let h270 := h269.put (h.next + 1) (.cells true 62 P7)
 (h270.ld (.n h.next) 32).bind fun w271 =>
 (AV.asI .i64 w271).bind fun n272 =>
 (h270.st (.n h.next) 32 [(.i .i64 (IntKind.i64.wrap (n272 + 1)))]).bind fun h273 =>
 w.W2 h273 (.n h.next) 0 fun n275 n277 n279 n281 n283 l285 l287 n289 l291 l293 n295 l297 n299 l301 l303 n305 l307 n309 n311 n313 n315 n317 n319 n321 n323 n325 n327 n329 n331 n333 n335 n337 n339 l341 n343 n345 n347 n349 n351 n353 n355 n357 n359 n361 n363 n365 n367 n369 n371 n373 n375 n377 n379 n381 n383 n385 n387 n389 n391 n393 n395 n397 n399 n401 n403 n405 n407 n409 n411 n413 n415 n417 n419 n421 n423 n425 n427 n429 n431 n433 n435 n437 n439 n441 n443 n445 n447 n449 n451 n453 n455 n457 n459 n461 n463 n465 n467 n469 n471 n473 n475 n477 n479 n481 n483 n485 n487 n489 n491 n493 n495 n497 n499 n501 n503 n505 n507 n509 n511 n513 n515 n517 n519 n521 n523 n525 n527 n529 n531 n533 n535 n537 n539 n541 n543 n545 n547 n549 n551 n553 n555 n557 n559 n561 n563 n565 n567 n569 n571 n573 n575 n577 n579 n581 n583 n585 n587 n589 n591 n593 n595 n597 n599 n601 n603 n605 n607 n609 n611 n613 n615 n617 n619 n621 n623 n625 n627 n629 n631 n633 n635 n637 n639 n641 n643 n645 n647 n649 n651 n653 n655 n657 n659 n661 n663 n665 n667 n669 n671 n673 n675 n677 n679 n681 n683 n685 n687 n689 n691 n693 n695 n697 n699 n701 n703 n705 n707 n709 n711 n713 n715 n717 n719 n721 n723 n725 n727 n729 n731 n733 n735 n737 n739 n741 n743 n745 n747 n749 n751 n753 n755 n757 n759 n761 n763 n765 n767 n769 n771 n773 n775 n777 n779 n781 n783 n785 n787 n789 l791 n793 n795 n797 n799 n801 =>
 (k158 [(.agg (P8 n275 n277 n279 n281 n283 l285 l287 n289 l291 l293 n295 l297 n299 l301 l303 n305 l307 n309 n311 n313 n315 n317 n319 n321 n323 n325 n327 n329 n331 n333 n335 n337 n339 l341 n343 n345 n347 n349 n351 n353 n355 n357 n359 n361 n363 n365 n367 n369 n371 n373 n375 n377 n379 n381 n383 n385 n387 n389 n391 n393 n395 n397 n399 n401 n403 n405 n407 n409 n411 n413 n415 n417 n419 n421 n423 n425 n427 n429 n431 n433 n435 n437 n439 n441 n443 n445 n447 n449 n451 n453 n455 n457 n459 n461 n463 n465 n467 n469 n471 n473 n475 n477 n479 n481 n483 n485 n487 n489 n491 n493 n495 n497 n499 n501 n503 n505 n507 n509 n511 n513 n515 n517 n519 n521 n523 n525 n527 n529 n531 n533 n535 n537 n539 n541 n543 n545 n547 n549 n551 n553 n555 n557 n559 n561 n563 n565 n567 n569 n571 n573 n575 n577 n579 n581 n583 n585 n587 n589 n591 n593 n595 n597 n599 n601 n603 n605 n607 n609 n611 n613 n615 n617 n619 n621 n623 n625 n627 n629 n631 n633 n635 n637 n639 n641 n643 n645 n647 n649 n651 n653 n655 n657 n659 n661 n663 n665 n667 n669 n671 n673 n675 n677 n679 n681 n683 n685 n687 n689 n691 n693 n695 n697 n699 n701 n703 n705 n707 n709 n711 n713 n715 n717 n719 n721 n723 n725 n727 n729 n731 n733 n735 n737 n739 n741 n743 n745 n747 n749 n751 n753 n755 n757 n759 n761 n763 n765 n767 n769 n771 n773 n775 n777 n779 n781 n783 n785 n787 n789 l791 n793 n795 n797 n799 n801)), J n265] h273).bind fun r802 =>
 (AV.asTup 2 r802.1).bind fun c803 =>
 I6 c803 0 fun n804 => I6 c803 1 fun n805 => (bif ((n805 : Int) != 0) then
 none
 else ((bif ((decide (n266 < 0)) == false) then
 (r802.2.ld (.n h.next) 5).bind fun w806 =>
 (AV.asSl w806).bind fun l807 =>
 (bif ((decide ((0 : Int) ≤ n804)) && (decide (n804 < (l807.2 : Int)))) then
 (SA.ref l807.1).bind fun q808 =>
 (r802.2.ld q808.1 ((q808.2 + (n804.toNat * 8)) + 5)).bind fun w809 =>
 (AV.asSl w809).bind fun l810 =>
 some ([(.b (decide (n266 ≥ (l810.2 : Int))))], r802.2)
 else none)
 else some ([(.b true)], r802.2)) : Option (List AV × AH O)).bind fun r811 =>
 (AV.asB (r811.1.getD 0 .u)).bind fun b812 =>
 (bif b812 then
 none
 else w.W2 r811.2 (.n h.next) 0 fun n814 n816 n818 n820 n822 l824 l826 n828 l830 l832 n834 l836 n838 l840 l842 n844 l846 n848 n850 n852 n854 n856 n858 n860 n862 n864 n866 n868 n870 n872 n874 n876 n878 l880 n882 n884 n886 n888 n890 n892 n894 n896 n898 n900 n902 n904 n906 n908 n910 n912 n914 n916 n918 n920 n922 n924 n926 n928 n930 n932 n934 n936 n938 n940 n942 n944 n946 n948 n950 n952 n954 n956 n958 n960 n962 n964 n966 n968 n970 n972 n974 n976 n978 n980 n982 n984 n986 n988 n990 n992 n994 n996 n998 n1000 n1002 n1004 n1006 n1008 n1010 n1012 n1014 n1016 n1018 n1020 n1022 n1024 n1026 n1028 n1030 n1032 n1034 n1036 n1038 n1040 n1042 n1044 n1046 n1048 n1050 n1052 n1054 n1056 n1058 n1060 n1062 n1064 n1066 n1068 n1070 n1072 n1074 n1076 n1078 n1080 n1082 n1084 n1086 n1088 n1090 n1092 n1094 n1096 n1098 n1100 n1102 n1104 n1106 n1108 n1110 n1112 n1114 n1116 n1118 n1120 n1122 n1124 n1126 n1128 n1130 n1132 n1134 n1136 n1138 n1140 n1142 n1144 n1146 n1148 n1150 n1152 n1154 n1156 n1158 n1160 n1162 n1164 n1166 n1168 n1170 n1172 n1174 n1176 n1178 n1180 n1182 n1184 n1186 n1188 n1190 n1192 n1194 n1196 n1198 n1200 n1202 n1204 n1206 n1208 n1210 n1212 n1214 n1216 n1218 n1220 n1222 n1224 n1226 n1228 n1230 n1232 n1234 n1236 n1238 n1240 n1242 n1244 n1246 n1248 n1250 n1252 n1254 n1256 n1258 n1260 n1262 n1264 n1266 n1268 n1270 n1272 n1274 n1276 n1278 n1280 n1282 n1284 n1286 n1288 n1290 n1292 n1294 n1296 n1298 n1300 n1302 n1304 n1306 n1308 n1310 n1312 n1314 n1316 n1318 n1320 n1322 n1324 n1326 n1328 l1330 n1332 n1334 n1336 n1338 n1340 =>
 (k141 [(.agg (P8 n814 n816 n818 n820 n822 l824 l826 n828 l830 l832 n834 l836 n838 l840 l842 n844 l846 n848 n850 n852 n854 n856 n858 n860 n862 n864 n866 n868 n870 n872 n874 n876 n878 l880 n882 n884 n886 n888 n890 n892 n894 n896 n898 n900 n902 n904 n906 n908 n910 n912 n914 n916 n918 n920 n922 n924 n926 n928 n930 n932 n934 n936 n938 n940 n942 n944 n946 n948 n950 n952 n954 n956 n958 n960 n962 n964 n966 n968 n970 n972 n974 n976 n978 n980 n982 n984 n986 n988 n990 n992 n994 n996 n998 n1000 n1002 n1004 n1006 n1008 n1010 n1012 n1014 n1016 n1018 n1020 n1022 n1024 n1026 n1028 n1030 n1032 n1034 n1036 n1038 n1040 n1042 n1044 n1046 n1048 n1050 n1052 n1054 n1056 n1058 n1060 n1062 n1064 n1066 n1068 n1070 n1072 n1074 n1076 n1078 n1080 n1082 n1084 n1086 n1088 n1090 n1092 n1094 n1096 n1098 n1100 n1102 n1104 n1106 n1108 n1110 n1112 n1114 n1116 n1118 n1120 n1122 n1124 n1126 n1128 n1130 n1132 n1134 n1136 n1138 n1140 n1142 n1144 n1146 n1148 n1150 n1152 n1154 n1156 n1158 n1160 n1162 n1164 n1166 n1168 n1170 n1172 n1174 n1176 n1178 n1180 n1182 n1184 n1186 n1188 n1190 n1192 n1194 n1196 n1198 n1200 n1202 n1204 n1206 n1208 n1210 n1212 n1214 n1216 n1218 n1220 n1222 n1224 n1226 n1228 n1230 n1232 n1234 n1236 n1238 n1240 n1242 n1244 n1246 n1248 n1250 n1252 n1254 n1256 n1258 n1260 n1262 n1264 n1266 n1268 n1270 n1272 n1274 n1276 n1278 n1280 n1282 n1284 n1286 n1288 n1290 n1292 n1294 n1296 n1298 n1300 n1302 n1304 n1306 n1308 n1310 n1312 n1314 n1316 n1318 n1320 n1322 n1324 n1326 n1328 l1330 n1332 n1334 n1336 n1338 n1340)), J n267] r811.2).bind fun r1341 =>
 (AV.asTup 2 r1341.1).bind fun c1342 =>
 I6 c1342 0 fun n1343 => I6 c1342 1 fun n1344 => (bif ((n1344 : Int) != 0) then
 none
 else let h1345 := r1341.2.bump 2
 let h1346 := h1345.put r1341.2.next (.cells true 269 [])
 (h1346.ld (.n h.next) 5).bind fun w1347 =>
 (AV.asSl w1347).bind fun l1348 =>
 (h1346.rdSl l1348.1 l1348.2 8).bind fun new1349 =>
 (bif (Nat.ble ((0 + l1348.2) * 97) 35184372088832) then
 (h1346.appSl (r1341.2.next + 1) 269 8 (.loc (.n r1341.2.next) 0 8) 0 l1348.2 new1349).bind fun r1350 =>
 (AV.asSl r1350.1).bind fun l1351 =>
 (r1350.2.st (.n h.next) 5 [L l1351]).bind fun h1352 =>
 let h1353 := h1352.bump 2
 (h1353.ld (.n h.next) 5).bind fun w1354 =>
 (AV.asSl w1354).bind fun l1355 =>
 (h1353.ld (.n h.next) 5).bind fun w1356 =>
 (AV.asSl w1356).bind fun l1357 =>
 (bif ((decide ((0 : Int) ≤ n804)) && (decide (n804 < (l1357.2 : Int)))) then
 (SA.ref l1357.1).bind fun q1358 =>
 (h1353.ld q1358.1 ((q1358.2 + (n804.toNat * 8)) + 5)).bind fun w1359 =>
 (AV.asSl w1359).bind fun l1360 =>
 let h1361 := h1353.put h1352.next (.cells true 3 [])
 (h1361.rdSl l1360.1 l1360.2 1).bind fun new1362 =>
 (bif (Nat.ble ((0 + l1360.2) * 9) 35184372088832) then
 (h1361.appSl (h1352.next + 1) 3 1 (.loc (.n h1352.next) 0 1) 0 l1360.2 new1362).bind fun r1363 =>
 (AV.asSl r1363.1).bind fun l1364 =>
 (chkE (r1363.2.ld (.n h.next) 5) (some (.sl l1355.1 l1355.2))).bind fun _ =>
 (bif ((decide ((0 : Int) ≤ n804)) && (decide (n804 < (l1355.2 : Int)))) then
 (SA.ref l1355.1).bind fun q1365 =>
 (r1363.2.st q1365.1 ((q1365.2 + (n804.toNat * 8)) + 5) [L l1364]).bind fun h1366 =>
 (h1366.ld (.n h.next) 5).bind fun w1367 =>
 (AV.asSl w1367).bind fun l1368 =>
 (bif ((decide ((0 : Int) ≤ n804)) && (decide (n804 < (l1368.2 : Int)))) then
 (SA.ref l1368.1).bind fun q1369 =>
 (h1366.ld q1369.1 ((q1369.2 + (n804.toNat * 8)) + 5)).bind fun w1370 =>
 (AV.asSl w1370).bind fun l1371 =>
 (bif ((decide ((0 : Int) ≤ n266)) && (decide (n266 < (l1371.2 : Int)))) then
 (SA.ref l1371.1).bind fun q1372 =>
 (h1366.st q1372.1 (q1372.2 + (n266.toNat * 1)) [J n1343]).bind fun h1373 =>
 w.W2 h1373 (.n h.next) 0 fun n1375 n1377 n1379 n1381 n1383 l1385 l1387 n1389 l1391 l1393 n1395 l1397 n1399 l1401 l1403 n1405 l1407 n1409 n1411 n1413 n1415 n1417 n1419 n1421 n1423 n1425 n1427 n1429 n1431 n1433 n1435 n1437 n1439 l1441 n1443 n1445 n1447 n1449 n1451 n1453 n1455 n1457 n1459 n1461 n1463 n1465 n1467 n1469 n1471 n1473 n1475 n1477 n1479 n1481 n1483 n1485 n1487 n1489 n1491 n1493 n1495 n1497 n1499 n1501 n1503 n1505 n1507 n1509 n1511 n1513 n1515 n1517 n1519 n1521 n1523 n1525 n1527 n1529 n1531 n1533 n1535 n1537 n1539 n1541 n1543 n1545 n1547 n1549 n1551 n1553 n1555 n1557 n1559 n1561 n1563 n1565 n1567 n1569 n1571 n1573 n1575 n1577 n1579 n1581 n1583 n1585 n1587 n1589 n1591 n1593 n1595 n1597 n1599 n1601 n1603 n1605 n1607 n1609 n1611 n1613 n1615 n1617 n1619 n1621 n1623 n1625 n1627 n1629 n1631 n1633 n1635 n1637 n1639 n1641 n1643 n1645 n1647 n1649 n1651 n1653 n1655 n1657 n1659 n1661 n1663 n1665 n1667 n1669 n1671 n1673 n1675 n1677 n1679 n1681 n1683 n1685 n1687 n1689 n1691 n1693 n1695 n1697 n1699 n1701 n1703 n1705 n1707 n1709 n1711 n1713 n1715 n1717 n1719 n1721 n1723 n1725 n1727 n1729 n1731 n1733 n1735 n1737 n1739 n1741 n1743 n1745 n1747 n1749 n1751 n1753 n1755 n1757 n1759 n1761 n1763 n1765 n1767 n1769 n1771 n1773 n1775 n1777 n1779 n1781 n1783 n1785 n1787 n1789 n1791 n1793 n1795 n1797 n1799 n1801 n1803 n1805 n1807 n1809 n1811 n1813 n1815 n1817 n1819 n1821 n1823 n1825 n1827 n1829 n1831 n1833 n1835 n1837 n1839 n1841 n1843 n1845 n1847 n1849 n1851 n1853 n1855 n1857 n1859 n1861 n1863 n1865 n1867 n1869 n1871 n1873 n1875 n1877 n1879 n1881 n1883 n1885 n1887 n1889 l1891 n1893 n1895 n1897 n1899 n1901 =>
 (h1373.st (.n (h.next + 1)) 0 (P8 n1375 n1377 n1379 n1381 n1383 l1385 l1387 n1389 l1391 l1393 n1395 l1397 n1399 l1401 l1403 n1405 l1407 n1409 n1411 n1413 n1415 n1417 n1419 n1421 n1423 n1425 n1427 n1429 n1431 n1433 n1435 n1437 n1439 l1441 n1443 n1445 n1447 n1449 n1451 n1453 n1455 n1457 n1459 n1461 n1463 n1465 n1467 n1469 n1471 n1473 n1475 n1477 n1479 n1481 n1483 n1485 n1487 n1489 n1491 n1493 n1495 n1497 n1499 n1501 n1503 n1505 n1507 n1509 n1511 n1513 n1515 n1517 n1519 n1521 n1523 n1525 n1527 n1529 n1531 n1533 n1535 n1537 n1539 n1541 n1543 n1545 n1547 n1549 n1551 n1553 n1555 n1557 n1559 n1561 n1563 n1565 n1567 n1569 n1571 n1573 n1575 n1577 n1579 n1581 n1583 n1585 n1587 n1589 n1591 n1593 n1595 n1597 n1599 n1601 n1603 n1605 n1607 n1609 n1611 n1613 n1615 n1617 n1619 n1621 n1623 n1625 n1627 n1629 n1631 n1633 n1635 n1637 n1639 n1641 n1643 n1645 n1647 n1649 n1651 n1653 n1655 n1657 n1659 n1661 n1663 n1665 n1667 n1669 n1671 n1673 n1675 n1677 n1679 n1681 n1683 n1685 n1687 n1689 n1691 n1693 n1695 n1697 n1699 n1701 n1703 n1705 n1707 n1709 n1711 n1713 n1715 n1717 n1719 n1721 n1723 n1725 n1727 n1729 n1731 n1733 n1735 n1737 n1739 n1741 n1743 n1745 n1747 n1749 n1751 n1753 n1755 n1757 n1759 n1761 n1763 n1765 n1767 n1769 n1771 n1773 n1775 n1777 n1779 n1781 n1783 n1785 n1787 n1789 n1791 n1793 n1795 n1797 n1799 n1801 n1803 n1805 n1807 n1809 n1811 n1813 n1815 n1817 n1819 n1821 n1823 n1825 n1827 n1829 n1831 n1833 n1835 n1837 n1839 n1841 n1843 n1845 n1847 n1849 n1851 n1853 n1855 n1857 n1859 n1861 n1863 n1865 n1867 n1869 n1871 n1873 n1875 n1877 n1879 n1881 n1883 n1885 n1887 n1889 l1891 n1893 n1895 n1897 n1899 n1901)).bind fun h1902 =>
 w.W2 h1902 (.n (h.next + 1)) 0 fun n1904 n1906 n1908 n1910 n1912 l1914 l1916 n1918 l1920 l1922 n1924 l1926 n1928 l1930 l1932 n1934 l1936 n1938 n1940 n1942 n1944 n1946 n1948 n1950 n1952 n1954 n1956 n1958 n1960 n1962 n1964 n1966 n1968 l1970 n1972 n1974 n1976 n1978 n1980 n1982 n1984 n1986 n1988 n1990 n1992 n1994 n1996 n1998 n2000 n2002 n2004 n2006 n2008 n2010 n2012 n2014 n2016 n2018 n2020 n2022 n2024 n2026 n2028 n2030 n2032 n2034 n2036 n2038 n2040 n2042 n2044 n2046 n2048 n2050 n2052 n2054 n2056 n2058 n2060 n2062 n2064 n2066 n2068 n2070 n2072 n2074 n2076 n2078 n2080 n2082 n2084 n2086 n2088 n2090 n2092 n2094 n2096 n2098 n2100 n2102 n2104 n2106 n2108 n2110 n2112 n2114 n2116 n2118 n2120 n2122 n2124 n2126 n2128 n2130 n2132 n2134 n2136 n2138 n2140 n2142 n2144 n2146 n2148 n2150 n2152 n2154 n2156 n2158 n2160 n2162 n2164 n2166 n2168 n2170 n2172 n2174 n2176 n2178 n2180 n2182 n2184 n2186 n2188 n2190 n2192 n2194 n2196 n2198 n2200 n2202 n2204 n2206 n2208 n2210 n2212 n2214 n2216 n2218 n2220 n2222 n2224 n2226 n2228 n2230 n2232 n2234 n2236 n2238 n2240 n2242 n2244 n2246 n2248 n2250 n2252 n2254 n2256 n2258 n2260 n2262 n2264 n2266 n2268 n2270 n2272 n2274 n2276 n2278 n2280 n2282 n2284 n2286 n2288 n2290 n2292 n2294 n2296 n2298 n2300 n2302 n2304 n2306 n2308 n2310 n2312 n2314 n2316 n2318 n2320 n2322 n2324 n2326 n2328 n2330 n2332 n2334 n2336 n2338 n2340 n2342 n2344 n2346 n2348 n2350 n2352 n2354 n2356 n2358 n2360 n2362 n2364 n2366 n2368 n2370 n2372 n2374 n2376 n2378 n2380 n2382 n2384 n2386 n2388 n2390 n2392 n2394 n2396 n2398 n2400 n2402 n2404 n2406 n2408 n2410 n2412 n2414 n2416 n2418 l2420 n2422 n2424 n2426 n2428 n2430 =>
 some ((.tup [(.agg (P8 n1904 n1906 n1908 n1910 n1912 l1914 l1916 n1918 l1920 l1922 n1924 l1926 n1928 l1930 l1932 n1934 l1936 n1938 n1940 n1942 n1944 n1946 n1948 n1950 n1952 n1954 n1956 n1958 n1960 n1962 n1964 n1966 n1968 l1970 n1972 n1974 n1976 n1978 n1980 n1982 n1984 n1986 n1988 n1990 n1992 n1994 n1996 n1998 n2000 n2002 n2004 n2006 n2008 n2010 n2012 n2014 n2016 n2018 n2020 n2022 n2024 n2026 n2028 n2030 n2032 n2034 n2036 n2038 n2040 n2042 n2044 n2046 n2048 n2050 n2052 n2054 n2056 n2058 n2060 n2062 n2064 n2066 n2068 n2070 n2072 n2074 n2076 n2078 n2080 n2082 n2084 n2086 n2088 n2090 n2092 n2094 n2096 n2098 n2100 n2102 n2104 n2106 n2108 n2110 n2112 n2114 n2116 n2118 n2120 n2122 n2124 n2126 n2128 n2130 n2132 n2134 n2136 n2138 n2140 n2142 n2144 n2146 n2148 n2150 n2152 n2154 n2156 n2158 n2160 n2162 n2164 n2166 n2168 n2170 n2172 n2174 n2176 n2178 n2180 n2182 n2184 n2186 n2188 n2190 n2192 n2194 n2196 n2198 n2200 n2202 n2204 n2206 n2208 n2210 n2212 n2214 n2216 n2218 n2220 n2222 n2224 n2226 n2228 n2230 n2232 n2234 n2236 n2238 n2240 n2242 n2244 n2246 n2248 n2250 n2252 n2254 n2256 n2258 n2260 n2262 n2264 n2266 n2268 n2270 n2272 n2274 n2276 n2278 n2280 n2282 n2284 n2286 n2288 n2290 n2292 n2294 n2296 n2298 n2300 n2302 n2304 n2306 n2308 n2310 n2312 n2314 n2316 n2318 n2320 n2322 n2324 n2326 n2328 n2330 n2332 n2334 n2336 n2338 n2340 n2342 n2344 n2346 n2348 n2350 n2352 n2354 n2356 n2358 n2360 n2362 n2364 n2366 n2368 n2370 n2372 n2374 n2376 n2378 n2380 n2382 n2384 n2386 n2388 n2390 n2392 n2394 n2396 n2398 n2400 n2402 n2404 n2406 n2408 n2410 n2412 n2414 n2416 n2418 l2420 n2422 n2424 n2426 n2428 n2430)), J 0]), h1902)
 else none)
 else none)
 else none)
 else none)
 else none)
 else none))))
 else none
def haymowref33_Store_c (k158 k141 : Sm O) : Sm O := haymowref33_Store_p fastWords k158 k141
def haymowref33_Store : Sm O := haymowref33_Store_c haymowref33_Object haymowref33_Get
theorem haymowref33_Store_ent : Entered Tryz.prog 106 := Tryz.call106
theorem haymowref33_Store_run (k158 k141 : Sm O) : run (O := O) Tryz.prog [(158, k158), (141, k141)] Tryz.f106 (.n .z (.n .z (.n .z (.n (.n .z (.n .x .z)) (.n (.n (.g [(2, 9, [(40, .one .b)])]) (.n .x .z)) (.n .z (.n (.n .z (.n .x .z)) (.n .z (.n (.d [] [0, 1, 2, 4, 5, 6, 7, 8, 9, 3, 10, 11, 12, 13] [0, 1, 0, 0, 0, 16, 0, 112, 240, 496, 1016, 2047, 4095, 8191]) (.n .z .z)))))))))) = haymowref33_Store_c k158 k141 :=
 (show run (O := O) Tryz.prog [(158, k158), (141, k141)] Tryz.f106 (.n .z (.n .z (.n .z (.n (.n .z (.n .x .z)) (.n (.n (.g [(2, 9, [(40, .one .b)])]) (.n .x .z)) (.n .z (.n (.n .z (.n .x .z)) (.n .z (.n (.d [] [0, 1, 2, 4, 5, 6, 7, 8, 9, 3, 10, 11, 12, 13] [0, 1, 0, 0, 0, 16, 0, 112, 240, 496, 1016, 2047, 4095, 8191]) (.n .z .z)))))))))) = haymowref33_Store_p slowWords k158 k141 by kernel_rfl).trans (congrArg (fun w => haymowref33_Store_p w k158 k141) words_eq)
theorem haymowref33_Store_sound : FSound RO Tryz.prog 106 haymowref33_Store := sdf (haymowref33_Store_run _ _) (gcons haymowref33_Object_ent haymowref33_Object_sound <| gcons haymowref33_Get_ent haymowref33_Get_sound <| gnil) Tryz.func106 (by kernel_rfl)
def law33_words_p (w : Words O) (k105 k106 : Sm O) : Sm O := fun xs h =>
 bif Nat.beq xs.length 3 then
 (AV.asP (xs.getD 0 .u)).bind fun p0 =>
 (AV.asAgg 264 (xs.getD 1 .u)).bind fun c1 =>
 w.U2 c1 fun n2 n3 n4 n5 n6 l7 l8 n9 l10 l11 n12 l13 n14 l15 l16 n17 l18 n19 n20 n21 n22 n23 n24 n25 n26 n27 n28 n29 n30 n31 n32 n33 n34 l35 n36 n37 n38 n39 n40 n41 n42 n43 n44 n45 n46 n47 n48 n49 n50 n51 n52 n53 n54 n55 n56 n57 n58 n59 n60 n61 n62 n63 n64 n65 n66 n67 n68 n69 n70 n71 n72 n73 n74 n75 n76 n77 n78 n79 n80 n81 n82 n83 n84 n85 n86 n87 n88 n89 n90 n91 n92 n93 n94 n95 n96 n97 n98 n99 n100 n101 n102 n103 n104 n105 n106 n107 n108 n109 n110 n111 n112 n113 n114 n115 n116 n117 n118 n119 n120 n121 n122 n123 n124 n125 n126 n127 n128 n129 n130 n131 n132 n133 n134 n135 n136 n137 n138 n139 n140 n141 n142 n143 n144 n145 n146 n147 n148 n149 n150 n151 n152 n153 n154 n155 n156 n157 n158 n159 n160 n161 n162 n163 n164 n165 n166 n167 n168 n169 n170 n171 n172 n173 n174 n175 n176 n177 n178 n179 n180 n181 n182 n183 n184 n185 n186 n187 n188 n189 n190 n191 n192 n193 n194 n195 n196 n197 n198 n199 n200 n201 n202 n203 n204 n205 n206 n207 n208 n209 n210 n211 n212 n213 n214 n215 n216 n217 n218 n219 n220 n221 n222 n223 n224 n225 n226 n227 n228 n229 n230 n231 n232 n233 n234 n235 n236 n237 n238 n239 n240 n241 n242 n243 n244 n245 n246 n247 n248 n249 n250 n251 n252 n253 n254 n255 n256 n257 n258 n259 l260 n261 n262 n263 n264 n265 =>
 (AV.asAgg 5 (xs.getD 2 .u)).bind fun c266 =>
 I6 c266 0 fun n267 => I6 c266 1 fun n268 => I6 c266 2 fun n269 => I6 c266 3 fun n270 => I6 c266 4 fun n271 => let h272 := h.bump 3
 let h273 := h272.put h.next (.cells true 62 (P8 n2 n3 n4 n5 n6 l7 l8 n9 l10 l11 n12 l13 n14 l15 l16 n17 l18 n19 n20 n21 n22 n23 n24 n25 n26 n27 n28 n29 n30 n31 n32 n33 n34 l35 n36 n37 n38 n39 n40 n41 n42 n43 n44 n45 n46 n47 n48 n49 n50 n51 n52 n53 n54 n55 n56 n57 n58 n59 n60 n61 n62 n63 n64 n65 n66 n67 n68 n69 n70 n71 n72 n73 n74 n75 n76 n77 n78 n79 n80 n81 n82 n83 n84 n85 n86 n87 n88 n89 n90 n91 n92 n93 n94 n95 n96 n97 n98 n99 n100 n101 n102 n103 n104 n105 n106 n107 n108 n109 n110 n111 n112 n113 n114 n115 n116 n117 n118 n119 n120 n121 n122 n123 n124 n125 n126 n127 n128 n129 n130 n131 n132 n133 n134 n135 n136 n137 n138 n139 n140 n141 n142 n143 n144 n145 n146 n147 n148 n149 n150 n151 n152 n153 n154 n155 n156 n157 n158 n159 n160 n161 n162 n163 n164 n165 n166 n167 n168 n169 n170 n171 n172 n173 n174 n175 n176 n177 n178 n179 n180 n181 n182 n183 n184 n185 n186 n187 n188 n189 n190 n191 n192 n193 n194 n195 n196 n197 n198 n199 n200 n201 n202 n203 n204 n205 n206 n207 n208 n209 n210 n211 n212 n213 n214 n215 n216 n217 n218 n219 n220 n221 n222 n223 n224 n225 n226 n227 n228 n229 n230 n231 n232 n233 n234 n235 n236 n237 n238 n239 n240 n241 n242 n243 n244 n245 n246 n247 n248 n249 n250 n251 n252 n253 n254 n255 n256 n257 n258 n259 l260 n261 n262 n263 n264 n265))
 let h274 := h273.put (h.next + 1) (.cells true 66 [J n267, J n268, J n269, J n270, J n271])
 let h275 := h274.put ((h.next + 1) + 1) (.cells true 62 P7)
 let h276 := h275.bump 1
 let h277 := h276.put h275.next (.cells true 72 [J 0, J 0, J 0, J 0, (.b false)])
 (h277.ld (.n (h.next + 1)) 0).bind fun w278 =>
 (AV.asI .i64 w278).bind fun n279 =>
 (bif ((n279 : Int) == 11) then
 (h277.ld (.n (h.next + 1)) 1).bind fun w280 =>
 (AV.asI .i64 w280).bind fun n281 =>
 (h277.ld (.n (h.next + 1)) 2).bind fun w282 =>
 (AV.asI .i64 w282).bind fun n283 =>
 (h277.ld (.n (h.next + 1)) 3).bind fun w284 =>
 (AV.asI .i64 w284).bind fun n285 =>
 (k105 [(.p p0), J n281, J n283, J n285] h277).bind fun r286 =>
 (AV.asI .i64 r286.1).bind fun n287 =>
 w.W2 r286.2 (.n h.next) 0 fun n289 n291 n293 n295 n297 l299 l301 n303 l305 l307 n309 l311 n313 l315 l317 n319 l321 n323 n325 n327 n329 n331 n333 n335 n337 n339 n341 n343 n345 n347 n349 n351 n353 l355 n357 n359 n361 n363 n365 n367 n369 n371 n373 n375 n377 n379 n381 n383 n385 n387 n389 n391 n393 n395 n397 n399 n401 n403 n405 n407 n409 n411 n413 n415 n417 n419 n421 n423 n425 n427 n429 n431 n433 n435 n437 n439 n441 n443 n445 n447 n449 n451 n453 n455 n457 n459 n461 n463 n465 n467 n469 n471 n473 n475 n477 n479 n481 n483 n485 n487 n489 n491 n493 n495 n497 n499 n501 n503 n505 n507 n509 n511 n513 n515 n517 n519 n521 n523 n525 n527 n529 n531 n533 n535 n537 n539 n541 n543 n545 n547 n549 n551 n553 n555 n557 n559 n561 n563 n565 n567 n569 n571 n573 n575 n577 n579 n581 n583 n585 n587 n589 n591 n593 n595 n597 n599 n601 n603 n605 n607 n609 n611 n613 n615 n617 n619 n621 n623 n625 n627 n629 n631 n633 n635 n637 n639 n641 n643 n645 n647 n649 n651 n653 n655 n657 n659 n661 n663 n665 n667 n669 n671 n673 n675 n677 n679 n681 n683 n685 n687 n689 n691 n693 n695 n697 n699 n701 n703 n705 n707 n709 n711 n713 n715 n717 n719 n721 n723 n725 n727 n729 n731 n733 n735 n737 n739 n741 n743 n745 n747 n749 n751 n753 n755 n757 n759 n761 n763 n765 n767 n769 n771 n773 n775 n777 n779 n781 n783 n785 n787 n789 n791 n793 n795 n797 n799 n801 n803 l805 n807 n809 n811 n813 n815 =>
 (r286.2.ld (.n (h.next + 1)) 1).bind fun w816 =>
 (AV.asI .i64 w816).bind fun n817 =>
 (r286.2.ld (.n (h.next + 1)) 2).bind fun w818 =>
 (AV.asI .i64 w818).bind fun n819 =>
 (r286.2.ld (.n (h.next + 1)) 3).bind fun w820 =>
 (AV.asI .i64 w820).bind fun n821 =>
 (k106 [(.agg (P8 n289 n291 n293 n295 n297 l299 l301 n303 l305 l307 n309 l311 n313 l315 l317 n319 l321 n323 n325 n327 n329 n331 n333 n335 n337 n339 n341 n343 n345 n347 n349 n351 n353 l355 n357 n359 n361 n363 n365 n367 n369 n371 n373 n375 n377 n379 n381 n383 n385 n387 n389 n391 n393 n395 n397 n399 n401 n403 n405 n407 n409 n411 n413 n415 n417 n419 n421 n423 n425 n427 n429 n431 n433 n435 n437 n439 n441 n443 n445 n447 n449 n451 n453 n455 n457 n459 n461 n463 n465 n467 n469 n471 n473 n475 n477 n479 n481 n483 n485 n487 n489 n491 n493 n495 n497 n499 n501 n503 n505 n507 n509 n511 n513 n515 n517 n519 n521 n523 n525 n527 n529 n531 n533 n535 n537 n539 n541 n543 n545 n547 n549 n551 n553 n555 n557 n559 n561 n563 n565 n567 n569 n571 n573 n575 n577 n579 n581 n583 n585 n587 n589 n591 n593 n595 n597 n599 n601 n603 n605 n607 n609 n611 n613 n615 n617 n619 n621 n623 n625 n627 n629 n631 n633 n635 n637 n639 n641 n643 n645 n647 n649 n651 n653 n655 n657 n659 n661 n663 n665 n667 n669 n671 n673 n675 n677 n679 n681 n683 n685 n687 n689 n691 n693 n695 n697 n699 n701 n703 n705 n707 n709 n711 n713 n715 n717 n719 n721 n723 n725 n727 n729 n731 n733 n735 n737 n739 n741 n743 n745 n747 n749 n751 n753 n755 n757 n759 n761 n763 n765 n767 n769 n771 n773 n775 n777 n779 n781 n783 n785 n787 n789 n791 n793 n795 n797 n799 n801 n803 l805 n807 n809 n811 n813 n815)), J n817, J n819, J n821] r286.2).bind fun r822 =>
 (AV.asTup 2 r822.1).bind fun c823 =>
 (AV.asAgg 264 (c823.getD 0 .u)).bind fun c824 =>
 w.U2 c824 fun n825 n826 n827 n828 n829 l830 l831 n832 l833 l834 n835 l836 n837 l838 l839 n840 l841 n842 n843 n844 n845 n846 n847 n848 n849 n850 n851 n852 n853 n854 n855 n856 n857 l858 n859 n860 n861 n862 n863 n864 n865 n866 n867 n868 n869 n870 n871 n872 n873 n874 n875 n876 n877 n878 n879 n880 n881 n882 n883 n884 n885 n886 n887 n888 n889 n890 n891 n892 n893 n894 n895 n896 n897 n898 n899 n900 n901 n902 n903 n904 n905 n906 n907 n908 n909 n910 n911 n912 n913 n914 n915 n916 n917 n918 n919 n920 n921 n922 n923 n924 n925 n926 n927 n928 n929 n930 n931 n932 n933 n934 n935 n936 n937 n938 n939 n940 n941 n942 n943 n944 n945 n946 n947 n948 n949 n950 n951 n952 n953 n954 n955 n956 n957 n958 n959 n960 n961 n962 n963 n964 n965 n966 n967 n968 n969 n970 n971 n972 n973 n974 n975 n976 n977 n978 n979 n980 n981 n982 n983 n984 n985 n986 n987 n988 n989 n990 n991 n992 n993 n994 n995 n996 n997 n998 n999 n1000 n1001 n1002 n1003 n1004 n1005 n1006 n1007 n1008 n1009 n1010 n1011 n1012 n1013 n1014 n1015 n1016 n1017 n1018 n1019 n1020 n1021 n1022 n1023 n1024 n1025 n1026 n1027 n1028 n1029 n1030 n1031 n1032 n1033 n1034 n1035 n1036 n1037 n1038 n1039 n1040 n1041 n1042 n1043 n1044 n1045 n1046 n1047 n1048 n1049 n1050 n1051 n1052 n1053 n1054 n1055 n1056 n1057 n1058 n1059 n1060 n1061 n1062 n1063 n1064 n1065 n1066 n1067 n1068 n1069 n1070 n1071 n1072 n1073 n1074 n1075 n1076 n1077 n1078 n1079 n1080 n1081 n1082 l1083 n1084 n1085 n1086 n1087 n1088 =>
 I6 c823 1 fun n1089 => (r822.2.st (.n h.next) 0 (P8 n825 n826 n827 n828 n829 l830 l831 n832 l833 l834 n835 l836 n837 l838 l839 n840 l841 n842 n843 n844 n845 n846 n847 n848 n849 n850 n851 n852 n853 n854 n855 n856 n857 l858 n859 n860 n861 n862 n863 n864 n865 n866 n867 n868 n869 n870 n871 n872 n873 n874 n875 n876 n877 n878 n879 n880 n881 n882 n883 n884 n885 n886 n887 n888 n889 n890 n891 n892 n893 n894 n895 n896 n897 n898 n899 n900 n901 n902 n903 n904 n905 n906 n907 n908 n909 n910 n911 n912 n913 n914 n915 n916 n917 n918 n919 n920 n921 n922 n923 n924 n925 n926 n927 n928 n929 n930 n931 n932 n933 n934 n935 n936 n937 n938 n939 n940 n941 n942 n943 n944 n945 n946 n947 n948 n949 n950 n951 n952 n953 n954 n955 n956 n957 n958 n959 n960 n961 n962 n963 n964 n965 n966 n967 n968 n969 n970 n971 n972 n973 n974 n975 n976 n977 n978 n979 n980 n981 n982 n983 n984 n985 n986 n987 n988 n989 n990 n991 n992 n993 n994 n995 n996 n997 n998 n999 n1000 n1001 n1002 n1003 n1004 n1005 n1006 n1007 n1008 n1009 n1010 n1011 n1012 n1013 n1014 n1015 n1016 n1017 n1018 n1019 n1020 n1021 n1022 n1023 n1024 n1025 n1026 n1027 n1028 n1029 n1030 n1031 n1032 n1033 n1034 n1035 n1036 n1037 n1038 n1039 n1040 n1041 n1042 n1043 n1044 n1045 n1046 n1047 n1048 n1049 n1050 n1051 n1052 n1053 n1054 n1055 n1056 n1057 n1058 n1059 n1060 n1061 n1062 n1063 n1064 n1065 n1066 n1067 n1068 n1069 n1070 n1071 n1072 n1073 n1074 n1075 n1076 n1077 n1078 n1079 n1080 n1081 n1082 l1083 n1084 n1085 n1086 n1087 n1088)).bind fun h1090 =>
 w.W2 h1090 (.n h.next) 0 fun n1092 n1094 n1096 n1098 n1100 l1102 l1104 n1106 l1108 l1110 n1112 l1114 n1116 l1118 l1120 n1122 l1124 n1126 n1128 n1130 n1132 n1134 n1136 n1138 n1140 n1142 n1144 n1146 n1148 n1150 n1152 n1154 n1156 l1158 n1160 n1162 n1164 n1166 n1168 n1170 n1172 n1174 n1176 n1178 n1180 n1182 n1184 n1186 n1188 n1190 n1192 n1194 n1196 n1198 n1200 n1202 n1204 n1206 n1208 n1210 n1212 n1214 n1216 n1218 n1220 n1222 n1224 n1226 n1228 n1230 n1232 n1234 n1236 n1238 n1240 n1242 n1244 n1246 n1248 n1250 n1252 n1254 n1256 n1258 n1260 n1262 n1264 n1266 n1268 n1270 n1272 n1274 n1276 n1278 n1280 n1282 n1284 n1286 n1288 n1290 n1292 n1294 n1296 n1298 n1300 n1302 n1304 n1306 n1308 n1310 n1312 n1314 n1316 n1318 n1320 n1322 n1324 n1326 n1328 n1330 n1332 n1334 n1336 n1338 n1340 n1342 n1344 n1346 n1348 n1350 n1352 n1354 n1356 n1358 n1360 n1362 n1364 n1366 n1368 n1370 n1372 n1374 n1376 n1378 n1380 n1382 n1384 n1386 n1388 n1390 n1392 n1394 n1396 n1398 n1400 n1402 n1404 n1406 n1408 n1410 n1412 n1414 n1416 n1418 n1420 n1422 n1424 n1426 n1428 n1430 n1432 n1434 n1436 n1438 n1440 n1442 n1444 n1446 n1448 n1450 n1452 n1454 n1456 n1458 n1460 n1462 n1464 n1466 n1468 n1470 n1472 n1474 n1476 n1478 n1480 n1482 n1484 n1486 n1488 n1490 n1492 n1494 n1496 n1498 n1500 n1502 n1504 n1506 n1508 n1510 n1512 n1514 n1516 n1518 n1520 n1522 n1524 n1526 n1528 n1530 n1532 n1534 n1536 n1538 n1540 n1542 n1544 n1546 n1548 n1550 n1552 n1554 n1556 n1558 n1560 n1562 n1564 n1566 n1568 n1570 n1572 n1574 n1576 n1578 n1580 n1582 n1584 n1586 n1588 n1590 n1592 n1594 n1596 n1598 n1600 n1602 n1604 n1606 l1608 n1610 n1612 n1614 n1616 n1618 =>
 (h1090.st (.n ((h.next + 1) + 1)) 0 (P8 n1092 n1094 n1096 n1098 n1100 l1102 l1104 n1106 l1108 l1110 n1112 l1114 n1116 l1118 l1120 n1122 l1124 n1126 n1128 n1130 n1132 n1134 n1136 n1138 n1140 n1142 n1144 n1146 n1148 n1150 n1152 n1154 n1156 l1158 n1160 n1162 n1164 n1166 n1168 n1170 n1172 n1174 n1176 n1178 n1180 n1182 n1184 n1186 n1188 n1190 n1192 n1194 n1196 n1198 n1200 n1202 n1204 n1206 n1208 n1210 n1212 n1214 n1216 n1218 n1220 n1222 n1224 n1226 n1228 n1230 n1232 n1234 n1236 n1238 n1240 n1242 n1244 n1246 n1248 n1250 n1252 n1254 n1256 n1258 n1260 n1262 n1264 n1266 n1268 n1270 n1272 n1274 n1276 n1278 n1280 n1282 n1284 n1286 n1288 n1290 n1292 n1294 n1296 n1298 n1300 n1302 n1304 n1306 n1308 n1310 n1312 n1314 n1316 n1318 n1320 n1322 n1324 n1326 n1328 n1330 n1332 n1334 n1336 n1338 n1340 n1342 n1344 n1346 n1348 n1350 n1352 n1354 n1356 n1358 n1360 n1362 n1364 n1366 n1368 n1370 n1372 n1374 n1376 n1378 n1380 n1382 n1384 n1386 n1388 n1390 n1392 n1394 n1396 n1398 n1400 n1402 n1404 n1406 n1408 n1410 n1412 n1414 n1416 n1418 n1420 n1422 n1424 n1426 n1428 n1430 n1432 n1434 n1436 n1438 n1440 n1442 n1444 n1446 n1448 n1450 n1452 n1454 n1456 n1458 n1460 n1462 n1464 n1466 n1468 n1470 n1472 n1474 n1476 n1478 n1480 n1482 n1484 n1486 n1488 n1490 n1492 n1494 n1496 n1498 n1500 n1502 n1504 n1506 n1508 n1510 n1512 n1514 n1516 n1518 n1520 n1522 n1524 n1526 n1528 n1530 n1532 n1534 n1536 n1538 n1540 n1542 n1544 n1546 n1548 n1550 n1552 n1554 n1556 n1558 n1560 n1562 n1564 n1566 n1568 n1570 n1572 n1574 n1576 n1578 n1580 n1582 n1584 n1586 n1588 n1590 n1592 n1594 n1596 n1598 n1600 n1602 n1604 n1606 l1608 n1610 n1612 n1614 n1616 n1618)).bind fun h1619 =>
 w.W2 h1619 (.n ((h.next + 1) + 1)) 0 fun n1621 n1623 n1625 n1627 n1629 l1631 l1633 n1635 l1637 l1639 n1641 l1643 n1645 l1647 l1649 n1651 l1653 n1655 n1657 n1659 n1661 n1663 n1665 n1667 n1669 n1671 n1673 n1675 n1677 n1679 n1681 n1683 n1685 l1687 n1689 n1691 n1693 n1695 n1697 n1699 n1701 n1703 n1705 n1707 n1709 n1711 n1713 n1715 n1717 n1719 n1721 n1723 n1725 n1727 n1729 n1731 n1733 n1735 n1737 n1739 n1741 n1743 n1745 n1747 n1749 n1751 n1753 n1755 n1757 n1759 n1761 n1763 n1765 n1767 n1769 n1771 n1773 n1775 n1777 n1779 n1781 n1783 n1785 n1787 n1789 n1791 n1793 n1795 n1797 n1799 n1801 n1803 n1805 n1807 n1809 n1811 n1813 n1815 n1817 n1819 n1821 n1823 n1825 n1827 n1829 n1831 n1833 n1835 n1837 n1839 n1841 n1843 n1845 n1847 n1849 n1851 n1853 n1855 n1857 n1859 n1861 n1863 n1865 n1867 n1869 n1871 n1873 n1875 n1877 n1879 n1881 n1883 n1885 n1887 n1889 n1891 n1893 n1895 n1897 n1899 n1901 n1903 n1905 n1907 n1909 n1911 n1913 n1915 n1917 n1919 n1921 n1923 n1925 n1927 n1929 n1931 n1933 n1935 n1937 n1939 n1941 n1943 n1945 n1947 n1949 n1951 n1953 n1955 n1957 n1959 n1961 n1963 n1965 n1967 n1969 n1971 n1973 n1975 n1977 n1979 n1981 n1983 n1985 n1987 n1989 n1991 n1993 n1995 n1997 n1999 n2001 n2003 n2005 n2007 n2009 n2011 n2013 n2015 n2017 n2019 n2021 n2023 n2025 n2027 n2029 n2031 n2033 n2035 n2037 n2039 n2041 n2043 n2045 n2047 n2049 n2051 n2053 n2055 n2057 n2059 n2061 n2063 n2065 n2067 n2069 n2071 n2073 n2075 n2077 n2079 n2081 n2083 n2085 n2087 n2089 n2091 n2093 n2095 n2097 n2099 n2101 n2103 n2105 n2107 n2109 n2111 n2113 n2115 n2117 n2119 n2121 n2123 n2125 n2127 n2129 n2131 n2133 n2135 l2137 n2139 n2141 n2143 n2145 n2147 =>
 some ((.tup [(.agg (P8 n1621 n1623 n1625 n1627 n1629 l1631 l1633 n1635 l1637 l1639 n1641 l1643 n1645 l1647 l1649 n1651 l1653 n1655 n1657 n1659 n1661 n1663 n1665 n1667 n1669 n1671 n1673 n1675 n1677 n1679 n1681 n1683 n1685 l1687 n1689 n1691 n1693 n1695 n1697 n1699 n1701 n1703 n1705 n1707 n1709 n1711 n1713 n1715 n1717 n1719 n1721 n1723 n1725 n1727 n1729 n1731 n1733 n1735 n1737 n1739 n1741 n1743 n1745 n1747 n1749 n1751 n1753 n1755 n1757 n1759 n1761 n1763 n1765 n1767 n1769 n1771 n1773 n1775 n1777 n1779 n1781 n1783 n1785 n1787 n1789 n1791 n1793 n1795 n1797 n1799 n1801 n1803 n1805 n1807 n1809 n1811 n1813 n1815 n1817 n1819 n1821 n1823 n1825 n1827 n1829 n1831 n1833 n1835 n1837 n1839 n1841 n1843 n1845 n1847 n1849 n1851 n1853 n1855 n1857 n1859 n1861 n1863 n1865 n1867 n1869 n1871 n1873 n1875 n1877 n1879 n1881 n1883 n1885 n1887 n1889 n1891 n1893 n1895 n1897 n1899 n1901 n1903 n1905 n1907 n1909 n1911 n1913 n1915 n1917 n1919 n1921 n1923 n1925 n1927 n1929 n1931 n1933 n1935 n1937 n1939 n1941 n1943 n1945 n1947 n1949 n1951 n1953 n1955 n1957 n1959 n1961 n1963 n1965 n1967 n1969 n1971 n1973 n1975 n1977 n1979 n1981 n1983 n1985 n1987 n1989 n1991 n1993 n1995 n1997 n1999 n2001 n2003 n2005 n2007 n2009 n2011 n2013 n2015 n2017 n2019 n2021 n2023 n2025 n2027 n2029 n2031 n2033 n2035 n2037 n2039 n2041 n2043 n2045 n2047 n2049 n2051 n2053 n2055 n2057 n2059 n2061 n2063 n2065 n2067 n2069 n2071 n2073 n2075 n2077 n2079 n2081 n2083 n2085 n2087 n2089 n2091 n2093 n2095 n2097 n2099 n2101 n2103 n2105 n2107 n2109 n2111 n2113 n2115 n2117 n2119 n2121 n2123 n2125 n2127 n2129 n2131 n2133 n2135 l2137 n2139 n2141 n2143 n2145 n2147)), (.b ((n287 : Int) == n1089))]), h1619)
 else none)
 else none
def law33_words_c (k105 k106 : Sm O) : Sm O := law33_words_p fastWords k105 k106
def law33_words : Sm O := law33_words_c heap_Heap__Store haymowref33_Store
theorem law33_words_ent : Entered Tryz.prog 61 := Tryz.call61
theorem law33_words_run (k105 k106 : Sm O) : run (O := O) Tryz.prog [(105, k105), (106, k106)] Tryz.f61 (.n .z (.n .z (.n .z (.n (.n .z (.n (.n .z (.n (.n .z (.n .z .z)) .x)) .z)) (.n .z (.n .z (.n (.d [(4, 3, [(157, .one .b)])] [0, 1, 2, 3, 4, 5, 6, 7, 8, 9, 10] [0, 0, 0, 6, 14, 30, 30, 126, 254, 31, 1023]) .z))))))) = law33_words_c k105 k106 :=
 (show run (O := O) Tryz.prog [(105, k105), (106, k106)] Tryz.f61 (.n .z (.n .z (.n .z (.n (.n .z (.n (.n .z (.n (.n .z (.n .z .z)) .x)) .z)) (.n .z (.n .z (.n (.d [(4, 3, [(157, .one .b)])] [0, 1, 2, 3, 4, 5, 6, 7, 8, 9, 10] [0, 0, 0, 6, 14, 30, 30, 126, 254, 31, 1023]) .z))))))) = law33_words_p slowWords k105 k106 by kernel_rfl).trans (congrArg (fun w => law33_words_p w k105 k106) words_eq)
theorem law33_words_sound : FSound RO Tryz.prog 61 law33_words := sdf (law33_words_run _ _) (gcons heap_Heap__Store_ent heap_Heap__Store_sound <| gcons haymowref33_Store_ent haymowref33_Store_sound <| gnil) Tryz.func61 (by kernel_rfl)
def law33_Do_p (w : Words O) (k59 k61 : Sm O) : Sm O := fun xs h =>
 bif Nat.beq xs.length 3 then
 (AV.asP (xs.getD 0 .u)).bind fun p0 =>
 (AV.asAgg 264 (xs.getD 1 .u)).bind fun c1 =>
 w.U2 c1 fun n2 n3 n4 n5 n6 l7 l8 n9 l10 l11 n12 l13 n14 l15 l16 n17 l18 n19 n20 n21 n22 n23 n24 n25 n26 n27 n28 n29 n30 n31 n32 n33 n34 l35 n36 n37 n38 n39 n40 n41 n42 n43 n44 n45 n46 n47 n48 n49 n50 n51 n52 n53 n54 n55 n56 n57 n58 n59 n60 n61 n62 n63 n64 n65 n66 n67 n68 n69 n70 n71 n72 n73 n74 n75 n76 n77 n78 n79 n80 n81 n82 n83 n84 n85 n86 n87 n88 n89 n90 n91 n92 n93 n94 n95 n96 n97 n98 n99 n100 n101 n102 n103 n104 n105 n106 n107 n108 n109 n110 n111 n112 n113 n114 n115 n116 n117 n118 n119 n120 n121 n122 n123 n124 n125 n126 n127 n128 n129 n130 n131 n132 n133 n134 n135 n136 n137 n138 n139 n140 n141 n142 n143 n144 n145 n146 n147 n148 n149 n150 n151 n152 n153 n154 n155 n156 n157 n158 n159 n160 n161 n162 n163 n164 n165 n166 n167 n168 n169 n170 n171 n172 n173 n174 n175 n176 n177 n178 n179 n180 n181 n182 n183 n184 n185 n186 n187 n188 n189 n190 n191 n192 n193 n194 n195 n196 n197 n198 n199 n200 n201 n202 n203 n204 n205 n206 n207 n208 n209 n210 n211 n212 n213 n214 n215 n216 n217 n218 n219 n220 n221 n222 n223 n224 n225 n226 n227 n228 n229 n230 n231 n232 n233 n234 n235 n236 n237 n238 n239 n240 n241 n242 n243 n244 n245 n246 n247 n248 n249 n250 n251 n252 n253 n254 n255 n256 n257 n258 n259 l260 n261 n262 n263 n264 n265 =>
 (AV.asAgg 5 (xs.getD 2 .u)).bind fun c266 =>
 I6 c266 0 fun n267 => I6 c266 1 fun n268 => I6 c266 2 fun n269 => I6 c266 3 fun n270 => I6 c266 4 fun n271 => let h272 := h.bump 3
 let h273 := h272.put h.next (.cells true 62 (P8 n2 n3 n4 n5 n6 l7 l8 n9 l10 l11 n12 l13 n14 l15 l16 n17 l18 n19 n20 n21 n22 n23 n24 n25 n26 n27 n28 n29 n30 n31 n32 n33 n34 l35 n36 n37 n38 n39 n40 n41 n42 n43 n44 n45 n46 n47 n48 n49 n50 n51 n52 n53 n54 n55 n56 n57 n58 n59 n60 n61 n62 n63 n64 n65 n66 n67 n68 n69 n70 n71 n72 n73 n74 n75 n76 n77 n78 n79 n80 n81 n82 n83 n84 n85 n86 n87 n88 n89 n90 n91 n92 n93 n94 n95 n96 n97 n98 n99 n100 n101 n102 n103 n104 n105 n106 n107 n108 n109 n110 n111 n112 n113 n114 n115 n116 n117 n118 n119 n120 n121 n122 n123 n124 n125 n126 n127 n128 n129 n130 n131 n132 n133 n134 n135 n136 n137 n138 n139 n140 n141 n142 n143 n144 n145 n146 n147 n148 n149 n150 n151 n152 n153 n154 n155 n156 n157 n158 n159 n160 n161 n162 n163 n164 n165 n166 n167 n168 n169 n170 n171 n172 n173 n174 n175 n176 n177 n178 n179 n180 n181 n182 n183 n184 n185 n186 n187 n188 n189 n190 n191 n192 n193 n194 n195 n196 n197 n198 n199 n200 n201 n202 n203 n204 n205 n206 n207 n208 n209 n210 n211 n212 n213 n214 n215 n216 n217 n218 n219 n220 n221 n222 n223 n224 n225 n226 n227 n228 n229 n230 n231 n232 n233 n234 n235 n236 n237 n238 n239 n240 n241 n242 n243 n244 n245 n246 n247 n248 n249 n250 n251 n252 n253 n254 n255 n256 n257 n258 n259 l260 n261 n262 n263 n264 n265))
 let h274 := h273.put (h.next + 1) (.cells true 66 [J n267, J n268, J n269, J n270, J n271])
 let h275 := h274.put ((h.next + 1) + 1) (.cells true 62 P7)
 (h275.ld (.n (h.next + 1)) 0).bind fun w276 =>
 (AV.asI .i64 w276).bind fun n277 =>
 ((bif ((n277 : Int) == 0) then
 some ([(.b ((n277 : Int) == 0))], h275)
 else ((bif ((n277 : Int) == 1) then
 some ([(.b ((n277 : Int) == 1))], h275)
 else (bif ((n277 : Int) == 3) then
 none
 else some ([(.b ((n277 : Int) == 5))], h275))) : Option (List AV × AH O)).bind fun r278 =>
 (AV.asB (r278.1.getD 0 .u)).bind fun b279 =>
 some ([(.b b279)], r278.2)) : Option (List AV × AH O)).bind fun r280 =>
 (AV.asB (r280.1.getD 0 .u)).bind fun b281 =>
 (bif b281 then
 w.W2 r280.2 (.n h.next) 0 fun n283 n285 n287 n289 n291 l293 l295 n297 l299 l301 n303 l305 n307 l309 l311 n313 l315 n317 n319 n321 n323 n325 n327 n329 n331 n333 n335 n337 n339 n341 n343 n345 n347 l349 n351 n353 n355 n357 n359 n361 n363 n365 n367 n369 n371 n373 n375 n377 n379 n381 n383 n385 n387 n389 n391 n393 n395 n397 n399 n401 n403 n405 n407 n409 n411 n413 n415 n417 n419 n421 n423 n425 n427 n429 n431 n433 n435 n437 n439 n441 n443 n445 n447 n449 n451 n453 n455 n457 n459 n461 n463 n465 n467 n469 n471 n473 n475 n477 n479 n481 n483 n485 n487 n489 n491 n493 n495 n497 n499 n501 n503 n505 n507 n509 n511 n513 n515 n517 n519 n521 n523 n525 n527 n529 n531 n533 n535 n537 n539 n541 n543 n545 n547 n549 n551 n553 n555 n557 n559 n561 n563 n565 n567 n569 n571 n573 n575 n577 n579 n581 n583 n585 n587 n589 n591 n593 n595 n597 n599 n601 n603 n605 n607 n609 n611 n613 n615 n617 n619 n621 n623 n625 n627 n629 n631 n633 n635 n637 n639 n641 n643 n645 n647 n649 n651 n653 n655 n657 n659 n661 n663 n665 n667 n669 n671 n673 n675 n677 n679 n681 n683 n685 n687 n689 n691 n693 n695 n697 n699 n701 n703 n705 n707 n709 n711 n713 n715 n717 n719 n721 n723 n725 n727 n729 n731 n733 n735 n737 n739 n741 n743 n745 n747 n749 n751 n753 n755 n757 n759 n761 n763 n765 n767 n769 n771 n773 n775 n777 n779 n781 n783 n785 n787 n789 n791 n793 n795 n797 l799 n801 n803 n805 n807 n809 =>
 (r280.2.ld (.n (h.next + 1)) 0).bind fun w810 =>
 (AV.asI .i64 w810).bind fun n811 =>
 (r280.2.ld (.n (h.next + 1)) 1).bind fun w812 =>
 (AV.asI .i64 w812).bind fun n813 =>
 (r280.2.ld (.n (h.next + 1)) 2).bind fun w814 =>
 (AV.asI .i64 w814).bind fun n815 =>
 (r280.2.ld (.n (h.next + 1)) 3).bind fun w816 =>
 (AV.asI .i64 w816).bind fun n817 =>
 (r280.2.ld (.n (h.next + 1)) 4).bind fun w818 =>
 (AV.asI .i64 w818).bind fun n819 =>
 (k59 [(.p p0), (.agg (P8 n283 n285 n287 n289 n291 l293 l295 n297 l299 l301 n303 l305 n307 l309 l311 n313 l315 n317 n319 n321 n323 n325 n327 n329 n331 n333 n335 n337 n339 n341 n343 n345 n347 l349 n351 n353 n355 n357 n359 n361 n363 n365 n367 n369 n371 n373 n375 n377 n379 n381 n383 n385 n387 n389 n391 n393 n395 n397 n399 n401 n403 n405 n407 n409 n411 n413 n415 n417 n419 n421 n423 n425 n427 n429 n431 n433 n435 n437 n439 n441 n443 n445 n447 n449 n451 n453 n455 n457 n459 n461 n463 n465 n467 n469 n471 n473 n475 n477 n479 n481 n483 n485 n487 n489 n491 n493 n495 n497 n499 n501 n503 n505 n507 n509 n511 n513 n515 n517 n519 n521 n523 n525 n527 n529 n531 n533 n535 n537 n539 n541 n543 n545 n547 n549 n551 n553 n555 n557 n559 n561 n563 n565 n567 n569 n571 n573 n575 n577 n579 n581 n583 n585 n587 n589 n591 n593 n595 n597 n599 n601 n603 n605 n607 n609 n611 n613 n615 n617 n619 n621 n623 n625 n627 n629 n631 n633 n635 n637 n639 n641 n643 n645 n647 n649 n651 n653 n655 n657 n659 n661 n663 n665 n667 n669 n671 n673 n675 n677 n679 n681 n683 n685 n687 n689 n691 n693 n695 n697 n699 n701 n703 n705 n707 n709 n711 n713 n715 n717 n719 n721 n723 n725 n727 n729 n731 n733 n735 n737 n739 n741 n743 n745 n747 n749 n751 n753 n755 n757 n759 n761 n763 n765 n767 n769 n771 n773 n775 n777 n779 n781 n783 n785 n787 n789 n791 n793 n795 n797 l799 n801 n803 n805 n807 n809)), (.agg [J n811, J n813, J n815, J n817, J n819])] r280.2).bind fun r820 =>
 (AV.asTup 2 r820.1).bind fun c821 =>
 (AV.asAgg 264 (c821.getD 0 .u)).bind fun c822 =>
 w.U2 c822 fun n823 n824 n825 n826 n827 l828 l829 n830 l831 l832 n833 l834 n835 l836 l837 n838 l839 n840 n841 n842 n843 n844 n845 n846 n847 n848 n849 n850 n851 n852 n853 n854 n855 l856 n857 n858 n859 n860 n861 n862 n863 n864 n865 n866 n867 n868 n869 n870 n871 n872 n873 n874 n875 n876 n877 n878 n879 n880 n881 n882 n883 n884 n885 n886 n887 n888 n889 n890 n891 n892 n893 n894 n895 n896 n897 n898 n899 n900 n901 n902 n903 n904 n905 n906 n907 n908 n909 n910 n911 n912 n913 n914 n915 n916 n917 n918 n919 n920 n921 n922 n923 n924 n925 n926 n927 n928 n929 n930 n931 n932 n933 n934 n935 n936 n937 n938 n939 n940 n941 n942 n943 n944 n945 n946 n947 n948 n949 n950 n951 n952 n953 n954 n955 n956 n957 n958 n959 n960 n961 n962 n963 n964 n965 n966 n967 n968 n969 n970 n971 n972 n973 n974 n975 n976 n977 n978 n979 n980 n981 n982 n983 n984 n985 n986 n987 n988 n989 n990 n991 n992 n993 n994 n995 n996 n997 n998 n999 n1000 n1001 n1002 n1003 n1004 n1005 n1006 n1007 n1008 n1009 n1010 n1011 n1012 n1013 n1014 n1015 n1016 n1017 n1018 n1019 n1020 n1021 n1022 n1023 n1024 n1025 n1026 n1027 n1028 n1029 n1030 n1031 n1032 n1033 n1034 n1035 n1036 n1037 n1038 n1039 n1040 n1041 n1042 n1043 n1044 n1045 n1046 n1047 n1048 n1049 n1050 n1051 n1052 n1053 n1054 n1055 n1056 n1057 n1058 n1059 n1060 n1061 n1062 n1063 n1064 n1065 n1066 n1067 n1068 n1069 n1070 n1071 n1072 n1073 n1074 n1075 n1076 n1077 n1078 n1079 n1080 l1081 n1082 n1083 n1084 n1085 n1086 =>
 (AV.asB (c821.getD 1 .u)).bind fun b1087 =>
 (r820.2.st (.n ((h.next + 1) + 1)) 0 (P8 n823 n824 n825 n826 n827 l828 l829 n830 l831 l832 n833 l834 n835 l836 l837 n838 l839 n840 n841 n842 n843 n844 n845 n846 n847 n848 n849 n850 n851 n852 n853 n854 n855 l856 n857 n858 n859 n860 n861 n862 n863 n864 n865 n866 n867 n868 n869 n870 n871 n872 n873 n874 n875 n876 n877 n878 n879 n880 n881 n882 n883 n884 n885 n886 n887 n888 n889 n890 n891 n892 n893 n894 n895 n896 n897 n898 n899 n900 n901 n902 n903 n904 n905 n906 n907 n908 n909 n910 n911 n912 n913 n914 n915 n916 n917 n918 n919 n920 n921 n922 n923 n924 n925 n926 n927 n928 n929 n930 n931 n932 n933 n934 n935 n936 n937 n938 n939 n940 n941 n942 n943 n944 n945 n946 n947 n948 n949 n950 n951 n952 n953 n954 n955 n956 n957 n958 n959 n960 n961 n962 n963 n964 n965 n966 n967 n968 n969 n970 n971 n972 n973 n974 n975 n976 n977 n978 n979 n980 n981 n982 n983 n984 n985 n986 n987 n988 n989 n990 n991 n992 n993 n994 n995 n996 n997 n998 n999 n1000 n1001 n1002 n1003 n1004 n1005 n1006 n1007 n1008 n1009 n1010 n1011 n1012 n1013 n1014 n1015 n1016 n1017 n1018 n1019 n1020 n1021 n1022 n1023 n1024 n1025 n1026 n1027 n1028 n1029 n1030 n1031 n1032 n1033 n1034 n1035 n1036 n1037 n1038 n1039 n1040 n1041 n1042 n1043 n1044 n1045 n1046 n1047 n1048 n1049 n1050 n1051 n1052 n1053 n1054 n1055 n1056 n1057 n1058 n1059 n1060 n1061 n1062 n1063 n1064 n1065 n1066 n1067 n1068 n1069 n1070 n1071 n1072 n1073 n1074 n1075 n1076 n1077 n1078 n1079 n1080 l1081 n1082 n1083 n1084 n1085 n1086)).bind fun h1088 =>
 w.W2 h1088 (.n ((h.next + 1) + 1)) 0 fun n1090 n1092 n1094 n1096 n1098 l1100 l1102 n1104 l1106 l1108 n1110 l1112 n1114 l1116 l1118 n1120 l1122 n1124 n1126 n1128 n1130 n1132 n1134 n1136 n1138 n1140 n1142 n1144 n1146 n1148 n1150 n1152 n1154 l1156 n1158 n1160 n1162 n1164 n1166 n1168 n1170 n1172 n1174 n1176 n1178 n1180 n1182 n1184 n1186 n1188 n1190 n1192 n1194 n1196 n1198 n1200 n1202 n1204 n1206 n1208 n1210 n1212 n1214 n1216 n1218 n1220 n1222 n1224 n1226 n1228 n1230 n1232 n1234 n1236 n1238 n1240 n1242 n1244 n1246 n1248 n1250 n1252 n1254 n1256 n1258 n1260 n1262 n1264 n1266 n1268 n1270 n1272 n1274 n1276 n1278 n1280 n1282 n1284 n1286 n1288 n1290 n1292 n1294 n1296 n1298 n1300 n1302 n1304 n1306 n1308 n1310 n1312 n1314 n1316 n1318 n1320 n1322 n1324 n1326 n1328 n1330 n1332 n1334 n1336 n1338 n1340 n1342 n1344 n1346 n1348 n1350 n1352 n1354 n1356 n1358 n1360 n1362 n1364 n1366 n1368 n1370 n1372 n1374 n1376 n1378 n1380 n1382 n1384 n1386 n1388 n1390 n1392 n1394 n1396 n1398 n1400 n1402 n1404 n1406 n1408 n1410 n1412 n1414 n1416 n1418 n1420 n1422 n1424 n1426 n1428 n1430 n1432 n1434 n1436 n1438 n1440 n1442 n1444 n1446 n1448 n1450 n1452 n1454 n1456 n1458 n1460 n1462 n1464 n1466 n1468 n1470 n1472 n1474 n1476 n1478 n1480 n1482 n1484 n1486 n1488 n1490 n1492 n1494 n1496 n1498 n1500 n1502 n1504 n1506 n1508 n1510 n1512 n1514 n1516 n1518 n1520 n1522 n1524 n1526 n1528 n1530 n1532 n1534 n1536 n1538 n1540 n1542 n1544 n1546 n1548 n1550 n1552 n1554 n1556 n1558 n1560 n1562 n1564 n1566 n1568 n1570 n1572 n1574 n1576 n1578 n1580 n1582 n1584 n1586 n1588 n1590 n1592 n1594 n1596 n1598 n1600 n1602 n1604 l1606 n1608 n1610 n1612 n1614 n1616 =>
 some ((.tup [(.agg (P8 n1090 n1092 n1094 n1096 n1098 l1100 l1102 n1104 l1106 l1108 n1110 l1112 n1114 l1116 l1118 n1120 l1122 n1124 n1126 n1128 n1130 n1132 n1134 n1136 n1138 n1140 n1142 n1144 n1146 n1148 n1150 n1152 n1154 l1156 n1158 n1160 n1162 n1164 n1166 n1168 n1170 n1172 n1174 n1176 n1178 n1180 n1182 n1184 n1186 n1188 n1190 n1192 n1194 n1196 n1198 n1200 n1202 n1204 n1206 n1208 n1210 n1212 n1214 n1216 n1218 n1220 n1222 n1224 n1226 n1228 n1230 n1232 n1234 n1236 n1238 n1240 n1242 n1244 n1246 n1248 n1250 n1252 n1254 n1256 n1258 n1260 n1262 n1264 n1266 n1268 n1270 n1272 n1274 n1276 n1278 n1280 n1282 n1284 n1286 n1288 n1290 n1292 n1294 n1296 n1298 n1300 n1302 n1304 n1306 n1308 n1310 n1312 n1314 n1316 n1318 n1320 n1322 n1324 n1326 n1328 n1330 n1332 n1334 n1336 n1338 n1340 n1342 n1344 n1346 n1348 n1350 n1352 n1354 n1356 n1358 n1360 n1362 n1364 n1366 n1368 n1370 n1372 n1374 n1376 n1378 n1380 n1382 n1384 n1386 n1388 n1390 n1392 n1394 n1396 n1398 n1400 n1402 n1404 n1406 n1408 n1410 n1412 n1414 n1416 n1418 n1420 n1422 n1424 n1426 n1428 n1430 n1432 n1434 n1436 n1438 n1440 n1442 n1444 n1446 n1448 n1450 n1452 n1454 n1456 n1458 n1460 n1462 n1464 n1466 n1468 n1470 n1472 n1474 n1476 n1478 n1480 n1482 n1484 n1486 n1488 n1490 n1492 n1494 n1496 n1498 n1500 n1502 n1504 n1506 n1508 n1510 n1512 n1514 n1516 n1518 n1520 n1522 n1524 n1526 n1528 n1530 n1532 n1534 n1536 n1538 n1540 n1542 n1544 n1546 n1548 n1550 n1552 n1554 n1556 n1558 n1560 n1562 n1564 n1566 n1568 n1570 n1572 n1574 n1576 n1578 n1580 n1582 n1584 n1586 n1588 n1590 n1592 n1594 n1596 n1598 n1600 n1602 n1604 l1606 n1608 n1610 n1612 n1614 n1616)), (.b b1087)]), h1088)
 else (bif ((n277 : Int) == 2) then
 none
 else (bif ((n277 : Int) == 4) then
 none
 else (bif ((n277 : Int) == 6) then
 none
 else (bif ((n277 : Int) == 7) then
 none
 else (bif ((n277 : Int) == 8) then
 none
 else (bif ((n277 : Int) == 9) then
 none
 else (bif ((n277 : Int) == 10) then
 none
 else (bif ((n277 : Int) == 11) then
 (bif ((n277 : Int) == 11) then
 w.W2 r280.2 (.n h.next) 0 fun n1618 n1620 n1622 n1624 n1626 l1628 l1630 n1632 l1634 l1636 n1638 l1640 n1642 l1644 l1646 n1648 l1650 n1652 n1654 n1656 n1658 n1660 n1662 n1664 n1666 n1668 n1670 n1672 n1674 n1676 n1678 n1680 n1682 l1684 n1686 n1688 n1690 n1692 n1694 n1696 n1698 n1700 n1702 n1704 n1706 n1708 n1710 n1712 n1714 n1716 n1718 n1720 n1722 n1724 n1726 n1728 n1730 n1732 n1734 n1736 n1738 n1740 n1742 n1744 n1746 n1748 n1750 n1752 n1754 n1756 n1758 n1760 n1762 n1764 n1766 n1768 n1770 n1772 n1774 n1776 n1778 n1780 n1782 n1784 n1786 n1788 n1790 n1792 n1794 n1796 n1798 n1800 n1802 n1804 n1806 n1808 n1810 n1812 n1814 n1816 n1818 n1820 n1822 n1824 n1826 n1828 n1830 n1832 n1834 n1836 n1838 n1840 n1842 n1844 n1846 n1848 n1850 n1852 n1854 n1856 n1858 n1860 n1862 n1864 n1866 n1868 n1870 n1872 n1874 n1876 n1878 n1880 n1882 n1884 n1886 n1888 n1890 n1892 n1894 n1896 n1898 n1900 n1902 n1904 n1906 n1908 n1910 n1912 n1914 n1916 n1918 n1920 n1922 n1924 n1926 n1928 n1930 n1932 n1934 n1936 n1938 n1940 n1942 n1944 n1946 n1948 n1950 n1952 n1954 n1956 n1958 n1960 n1962 n1964 n1966 n1968 n1970 n1972 n1974 n1976 n1978 n1980 n1982 n1984 n1986 n1988 n1990 n1992 n1994 n1996 n1998 n2000 n2002 n2004 n2006 n2008 n2010 n2012 n2014 n2016 n2018 n2020 n2022 n2024 n2026 n2028 n2030 n2032 n2034 n2036 n2038 n2040 n2042 n2044 n2046 n2048 n2050 n2052 n2054 n2056 n2058 n2060 n2062 n2064 n2066 n2068 n2070 n2072 n2074 n2076 n2078 n2080 n2082 n2084 n2086 n2088 n2090 n2092 n2094 n2096 n2098 n2100 n2102 n2104 n2106 n2108 n2110 n2112 n2114 n2116 n2118 n2120 n2122 n2124 n2126 n2128 n2130 n2132 l2134 n2136 n2138 n2140 n2142 n2144 =>
 (r280.2.ld (.n (h.next + 1)) 0).bind fun w2145 =>
 (AV.asI .i64 w2145).bind fun n2146 =>
 (r280.2.ld (.n (h.next + 1)) 1).bind fun w2147 =>
 (AV.asI .i64 w2147).bind fun n2148 =>
 (r280.2.ld (.n (h.next + 1)) 2).bind fun w2149 =>
 (AV.asI .i64 w2149).bind fun n2150 =>
 (r280.2.ld (.n (h.next + 1)) 3).bind fun w2151 =>
 (AV.asI .i64 w2151).bind fun n2152 =>
 (r280.2.ld (.n (h.next + 1)) 4).bind fun w2153 =>
 (AV.asI .i64 w2153).bind fun n2154 =>
 (k61 [(.p p0), (.agg (P8 n1618 n1620 n1622 n1624 n1626 l1628 l1630 n1632 l1634 l1636 n1638 l1640 n1642 l1644 l1646 n1648 l1650 n1652 n1654 n1656 n1658 n1660 n1662 n1664 n1666 n1668 n1670 n1672 n1674 n1676 n1678 n1680 n1682 l1684 n1686 n1688 n1690 n1692 n1694 n1696 n1698 n1700 n1702 n1704 n1706 n1708 n1710 n1712 n1714 n1716 n1718 n1720 n1722 n1724 n1726 n1728 n1730 n1732 n1734 n1736 n1738 n1740 n1742 n1744 n1746 n1748 n1750 n1752 n1754 n1756 n1758 n1760 n1762 n1764 n1766 n1768 n1770 n1772 n1774 n1776 n1778 n1780 n1782 n1784 n1786 n1788 n1790 n1792 n1794 n1796 n1798 n1800 n1802 n1804 n1806 n1808 n1810 n1812 n1814 n1816 n1818 n1820 n1822 n1824 n1826 n1828 n1830 n1832 n1834 n1836 n1838 n1840 n1842 n1844 n1846 n1848 n1850 n1852 n1854 n1856 n1858 n1860 n1862 n1864 n1866 n1868 n1870 n1872 n1874 n1876 n1878 n1880 n1882 n1884 n1886 n1888 n1890 n1892 n1894 n1896 n1898 n1900 n1902 n1904 n1906 n1908 n1910 n1912 n1914 n1916 n1918 n1920 n1922 n1924 n1926 n1928 n1930 n1932 n1934 n1936 n1938 n1940 n1942 n1944 n1946 n1948 n1950 n1952 n1954 n1956 n1958 n1960 n1962 n1964 n1966 n1968 n1970 n1972 n1974 n1976 n1978 n1980 n1982 n1984 n1986 n1988 n1990 n1992 n1994 n1996 n1998 n2000 n2002 n2004 n2006 n2008 n2010 n2012 n2014 n2016 n2018 n2020 n2022 n2024 n2026 n2028 n2030 n2032 n2034 n2036 n2038 n2040 n2042 n2044 n2046 n2048 n2050 n2052 n2054 n2056 n2058 n2060 n2062 n2064 n2066 n2068 n2070 n2072 n2074 n2076 n2078 n2080 n2082 n2084 n2086 n2088 n2090 n2092 n2094 n2096 n2098 n2100 n2102 n2104 n2106 n2108 n2110 n2112 n2114 n2116 n2118 n2120 n2122 n2124 n2126 n2128 n2130 n2132 l2134 n2136 n2138 n2140 n2142 n2144)), (.agg [J n2146, J n2148, J n2150, J n2152, J n2154])] r280.2).bind fun r2155 =>
 (AV.asTup 2 r2155.1).bind fun c2156 =>
 (AV.asAgg 264 (c2156.getD 0 .u)).bind fun c2157 =>
 w.U2 c2157 fun n2158 n2159 n2160 n2161 n2162 l2163 l2164 n2165 l2166 l2167 n2168 l2169 n2170 l2171 l2172 n2173 l2174 n2175 n2176 n2177 n2178 n2179 n2180 n2181 n2182 n2183 n2184 n2185 n2186 n2187 n2188 n2189 n2190 l2191 n2192 n2193 n2194 n2195 n2196 n2197 n2198 n2199 n2200 n2201 n2202 n2203 n2204 n2205 n2206 n2207 n2208 n2209 n2210 n2211 n2212 n2213 n2214 n2215 n2216 n2217 n2218 n2219 n2220 n2221 n2222 n2223 n2224 n2225 n2226 n2227 n2228 n2229 n2230 n2231 n2232 n2233 n2234 n2235 n2236 n2237 n2238 n2239 n2240 n2241 n2242 n2243 n2244 n2245 n2246 n2247 n2248 n2249 n2250 n2251 n2252 n2253 n2254 n2255 n2256 n2257 n2258 n2259 n2260 n2261 n2262 n2263 n2264 n2265 n2266 n2267 n2268 n2269 n2270 n2271 n2272 n2273 n2274 n2275 n2276 n2277 n2278 n2279 n2280 n2281 n2282 n2283 n2284 n2285 n2286 n2287 n2288 n2289 n2290 n2291 n2292 n2293 n2294 n2295 n2296 n2297 n2298 n2299 n2300 n2301 n2302 n2303 n2304 n2305 n2306 n2307 n2308 n2309 n2310 n2311 n2312 n2313 n2314 n2315 n2316 n2317 n2318 n2319 n2320 n2321 n2322 n2323 n2324 n2325 n2326 n2327 n2328 n2329 n2330 n2331 n2332 n2333 n2334 n2335 n2336 n2337 n2338 n2339 n2340 n2341 n2342 n2343 n2344 n2345 n2346 n2347 n2348 n2349 n2350 n2351 n2352 n2353 n2354 n2355 n2356 n2357 n2358 n2359 n2360 n2361 n2362 n2363 n2364 n2365 n2366 n2367 n2368 n2369 n2370 n2371 n2372 n2373 n2374 n2375 n2376 n2377 n2378 n2379 n2380 n2381 n2382 n2383 n2384 n2385 n2386 n2387 n2388 n2389 n2390 n2391 n2392 n2393 n2394 n2395 n2396 n2397 n2398 n2399 n2400 n2401 n2402 n2403 n2404 n2405 n2406 n2407 n2408 n2409 n2410 n2411 n2412 n2413 n2414 n2415 l2416 n2417 n2418 n2419 n2420 n2421 =>
 (AV.asB (c2156.getD 1 .u)).bind fun b2422 =>
 (r2155.2.st (.n ((h.next + 1) + 1)) 0 (P8 n2158 n2159 n2160 n2161 n2162 l2163 l2164 n2165 l2166 l2167 n2168 l2169 n2170 l2171 l2172 n2173 l2174 n2175 n2176 n2177 n2178 n2179 n2180 n2181 n2182 n2183 n2184 n2185 n2186 n2187 n2188 n2189 n2190 l2191 n2192 n2193 n2194 n2195 n2196 n2197 n2198 n2199 n2200 n2201 n2202 n2203 n2204 n2205 n2206 n2207 n2208 n2209 n2210 n2211 n2212 n2213 n2214 n2215 n2216 n2217 n2218 n2219 n2220 n2221 n2222 n2223 n2224 n2225 n2226 n2227 n2228 n2229 n2230 n2231 n2232 n2233 n2234 n2235 n2236 n2237 n2238 n2239 n2240 n2241 n2242 n2243 n2244 n2245 n2246 n2247 n2248 n2249 n2250 n2251 n2252 n2253 n2254 n2255 n2256 n2257 n2258 n2259 n2260 n2261 n2262 n2263 n2264 n2265 n2266 n2267 n2268 n2269 n2270 n2271 n2272 n2273 n2274 n2275 n2276 n2277 n2278 n2279 n2280 n2281 n2282 n2283 n2284 n2285 n2286 n2287 n2288 n2289 n2290 n2291 n2292 n2293 n2294 n2295 n2296 n2297 n2298 n2299 n2300 n2301 n2302 n2303 n2304 n2305 n2306 n2307 n2308 n2309 n2310 n2311 n2312 n2313 n2314 n2315 n2316 n2317 n2318 n2319 n2320 n2321 n2322 n2323 n2324 n2325 n2326 n2327 n2328 n2329 n2330 n2331 n2332 n2333 n2334 n2335 n2336 n2337 n2338 n2339 n2340 n2341 n2342 n2343 n2344 n2345 n2346 n2347 n2348 n2349 n2350 n2351 n2352 n2353 n2354 n2355 n2356 n2357 n2358 n2359 n2360 n2361 n2362 n2363 n2364 n2365 n2366 n2367 n2368 n2369 n2370 n2371 n2372 n2373 n2374 n2375 n2376 n2377 n2378 n2379 n2380 n2381 n2382 n2383 n2384 n2385 n2386 n2387 n2388 n2389 n2390 n2391 n2392 n2393 n2394 n2395 n2396 n2397 n2398 n2399 n2400 n2401 n2402 n2403 n2404 n2405 n2406 n2407 n2408 n2409 n2410 n2411 n2412 n2413 n2414 n2415 l2416 n2417 n2418 n2419 n2420 n2421)).bind fun h2423 =>
 w.W2 h2423 (.n ((h.next + 1) + 1)) 0 fun n2425 n2427 n2429 n2431 n2433 l2435 l2437 n2439 l2441 l2443 n2445 l2447 n2449 l2451 l2453 n2455 l2457 n2459 n2461 n2463 n2465 n2467 n2469 n2471 n2473 n2475 n2477 n2479 n2481 n2483 n2485 n2487 n2489 l2491 n2493 n2495 n2497 n2499 n2501 n2503 n2505 n2507 n2509 n2511 n2513 n2515 n2517 n2519 n2521 n2523 n2525 n2527 n2529 n2531 n2533 n2535 n2537 n2539 n2541 n2543 n2545 n2547 n2549 n2551 n2553 n2555 n2557 n2559 n2561 n2563 n2565 n2567 n2569 n2571 n2573 n2575 n2577 n2579 n2581 n2583 n2585 n2587 n2589 n2591 n2593 n2595 n2597 n2599 n2601 n2603 n2605 n2607 n2609 n2611 n2613 n2615 n2617 n2619 n2621 n2623 n2625 n2627 n2629 n2631 n2633 n2635 n2637 n2639 n2641 n2643 n2645 n2647 n2649 n2651 n2653 n2655 n2657 n2659 n2661 n2663 n2665 n2667 n2669 n2671 n2673 n2675 n2677 n2679 n2681 n2683 n2685 n2687 n2689 n2691 n2693 n2695 n2697 n2699 n2701 n2703 n2705 n2707 n2709 n2711 n2713 n2715 n2717 n2719 n2721 n2723 n2725 n2727 n2729 n2731 n2733 n2735 n2737 n2739 n2741 n2743 n2745 n2747 n2749 n2751 n2753 n2755 n2757 n2759 n2761 n2763 n2765 n2767 n2769 n2771 n2773 n2775 n2777 n2779 n2781 n2783 n2785 n2787 n2789 n2791 n2793 n2795 n2797 n2799 n2801 n2803 n2805 n2807 n2809 n2811 n2813 n2815 n2817 n2819 n2821 n2823 n2825 n2827 n2829 n2831 n2833 n2835 n2837 n2839 n2841 n2843 n2845 n2847 n2849 n2851 n2853 n2855 n2857 n2859 n2861 n2863 n2865 n2867 n2869 n2871 n2873 n2875 n2877 n2879 n2881 n2883 n2885 n2887 n2889 n2891 n2893 n2895 n2897 n2899 n2901 n2903 n2905 n2907 n2909 n2911 n2913 n2915 n2917 n2919 n2921 n2923 n2925 n2927 n2929 n2931 n2933 n2935 n2937 n2939 l2941 n2943 n2945 n2947 n2949 n2951 =>
 some ((.tup [(.agg (P8 n2425 n2427 n2429 n2431 n2433 l2435 l2437 n2439 l2441 l2443 n2445 l2447 n2449 l2451 l2453 n2455 l2457 n2459 n2461 n2463 n2465 n2467 n2469 n2471 n2473 n2475 n2477 n2479 n2481 n2483 n2485 n2487 n2489 l2491 n2493 n2495 n2497 n2499 n2501 n2503 n2505 n2507 n2509 n2511 n2513 n2515 n2517 n2519 n2521 n2523 n2525 n2527 n2529 n2531 n2533 n2535 n2537 n2539 n2541 n2543 n2545 n2547 n2549 n2551 n2553 n2555 n2557 n2559 n2561 n2563 n2565 n2567 n2569 n2571 n2573 n2575 n2577 n2579 n2581 n2583 n2585 n2587 n2589 n2591 n2593 n2595 n2597 n2599 n2601 n2603 n2605 n2607 n2609 n2611 n2613 n2615 n2617 n2619 n2621 n2623 n2625 n2627 n2629 n2631 n2633 n2635 n2637 n2639 n2641 n2643 n2645 n2647 n2649 n2651 n2653 n2655 n2657 n2659 n2661 n2663 n2665 n2667 n2669 n2671 n2673 n2675 n2677 n2679 n2681 n2683 n2685 n2687 n2689 n2691 n2693 n2695 n2697 n2699 n2701 n2703 n2705 n2707 n2709 n2711 n2713 n2715 n2717 n2719 n2721 n2723 n2725 n2727 n2729 n2731 n2733 n2735 n2737 n2739 n2741 n2743 n2745 n2747 n2749 n2751 n2753 n2755 n2757 n2759 n2761 n2763 n2765 n2767 n2769 n2771 n2773 n2775 n2777 n2779 n2781 n2783 n2785 n2787 n2789 n2791 n2793 n2795 n2797 n2799 n2801 n2803 n2805 n2807 n2809 n2811 n2813 n2815 n2817 n2819 n2821 n2823 n2825 n2827 n2829 n2831 n2833 n2835 n2837 n2839 n2841 n2843 n2845 n2847 n2849 n2851 n2853 n2855 n2857 n2859 n2861 n2863 n2865 n2867 n2869 n2871 n2873 n2875 n2877 n2879 n2881 n2883 n2885 n2887 n2889 n2891 n2893 n2895 n2897 n2899 n2901 n2903 n2905 n2907 n2909 n2911 n2913 n2915 n2917 n2919 n2921 n2923 n2925 n2927 n2929 n2931 n2933 n2935 n2937 n2939 l2941 n2943 n2945 n2947 n2949 n2951)), (.b b2422)]), h2423)
 else none)
 else none)))))))))
 else none
def law33_Do_c (k59 k61 : Sm O) : Sm O := law33_Do_p fastWords k59 k61
def law33_Do : Sm O := law33_Do_c law33_grants law33_words
theorem law33_Do_ent : Entered Tryz.prog 34 := Tryz.call34
theorem law33_Do_run (k59 k61 : Sm O) : run (O := O) Tryz.prog [(59, k59), (61, k61)] Tryz.f34 (.n .z (.n (.n .z (.n (.n (.n .z (.j false [(11, .one .b)] .z (.n .z (.j false [(11, .one .b)] .z (.n .z (.n .x .z)))))) (.n .z (.n (.n .z (.n .x (.n .z (.n .x (.n .z (.n .x (.n .z (.n .x (.n .z (.n .x (.n .z (.n .x .z)))))))))))) (.n .x (.n (.n .z (.n .z .x)) (.n .z .x)))))) .z)) (.n .z (.n .z .z)))) = law33_Do_c k59 k61 :=
 (show run (O := O) Tryz.prog [(59, k59), (61, k61)] Tryz.f34 (.n .z (.n (.n .z (.n (.n (.n .z (.j false [(11, .one .b)] .z (.n .z (.j false [(11, .one .b)] .z (.n .z (.n .x .z)))))) (.n .z (.n (.n .z (.n .x (.n .z (.n .x (.n .z (.n .x (.n .z (.n .x (.n .z (.n .x (.n .z (.n .x .z)))))))))))) (.n .x (.n (.n .z (.n .z .x)) (.n .z .x)))))) .z)) (.n .z (.n .z .z)))) = law33_Do_p slowWords k59 k61 by kernel_rfl).trans (congrArg (fun w => law33_Do_p w k59 k61) words_eq)
theorem law33_Do_sound : FSound RO Tryz.prog 34 law33_Do := sdf (law33_Do_run _ _) (gcons law33_grants_ent law33_grants_sound <| gcons law33_words_ent law33_words_sound <| gnil) Tryz.func34 (by kernel_rfl)
def law40_Made_L1 (w : Words O) (l6 : SA × Nat) (r32 : List AV × AH O) (k34 : Sm O) (p22 : Option (Bid × Nat)) : List AV × AH O → Option ((List AV × AH O) ⊕ (List AV × AH O)) := (fun r313 =>
 (AV.asI .i64 (r313.1.getD 0 .u)).bind fun n314 =>
 (bif (decide (n314 < (l6.2 : Int))) then
 w.W2 r313.2 (.n r32.2.next) 0 fun n316 n318 n320 n322 n324 l326 l328 n330 l332 l334 n336 l338 n340 l342 l344 n346 l348 n350 n352 n354 n356 n358 n360 n362 n364 n366 n368 n370 n372 n374 n376 n378 n380 l382 n384 n386 n388 n390 n392 n394 n396 n398 n400 n402 n404 n406 n408 n410 n412 n414 n416 n418 n420 n422 n424 n426 n428 n430 n432 n434 n436 n438 n440 n442 n444 n446 n448 n450 n452 n454 n456 n458 n460 n462 n464 n466 n468 n470 n472 n474 n476 n478 n480 n482 n484 n486 n488 n490 n492 n494 n496 n498 n500 n502 n504 n506 n508 n510 n512 n514 n516 n518 n520 n522 n524 n526 n528 n530 n532 n534 n536 n538 n540 n542 n544 n546 n548 n550 n552 n554 n556 n558 n560 n562 n564 n566 n568 n570 n572 n574 n576 n578 n580 n582 n584 n586 n588 n590 n592 n594 n596 n598 n600 n602 n604 n606 n608 n610 n612 n614 n616 n618 n620 n622 n624 n626 n628 n630 n632 n634 n636 n638 n640 n642 n644 n646 n648 n650 n652 n654 n656 n658 n660 n662 n664 n666 n668 n670 n672 n674 n676 n678 n680 n682 n684 n686 n688 n690 n692 n694 n696 n698 n700 n702 n704 n706 n708 n710 n712 n714 n716 n718 n720 n722 n724 n726 n728 n730 n732 n734 n736 n738 n740 n742 n744 n746 n748 n750 n752 n754 n756 n758 n760 n762 n764 n766 n768 n770 n772 n774 n776 n778 n780 n782 n784 n786 n788 n790 n792 n794 n796 n798 n800 n802 n804 n806 n808 n810 n812 n814 n816 n818 n820 n822 n824 n826 n828 n830 l832 n834 n836 n838 n840 n842 =>
 (bif ((decide ((0 : Int) ≤ n314)) && (decide (n314 < (l6.2 : Int)))) then
 (SA.ref l6.1).bind fun q843 =>
 (r313.2.ld q843.1 (q843.2 + (n314.toNat * 5))).bind fun w844 =>
 (AV.asI .i64 w844).bind fun n845 =>
 (r313.2.ld q843.1 ((q843.2 + (n314.toNat * 5)) + 1)).bind fun w846 =>
 (AV.asI .i64 w846).bind fun n847 =>
 (r313.2.ld q843.1 (((q843.2 + (n314.toNat * 5)) + 1) + 1)).bind fun w848 =>
 (AV.asI .i64 w848).bind fun n849 =>
 (r313.2.ld q843.1 ((((q843.2 + (n314.toNat * 5)) + 1) + 1) + 1)).bind fun w850 =>
 (AV.asI .i64 w850).bind fun n851 =>
 (r313.2.ld q843.1 (((((q843.2 + (n314.toNat * 5)) + 1) + 1) + 1) + 1)).bind fun w852 =>
 (AV.asI .i64 w852).bind fun n853 =>
 (k34 [(.p p22), (.agg (P8 n316 n318 n320 n322 n324 l326 l328 n330 l332 l334 n336 l338 n340 l342 l344 n346 l348 n350 n352 n354 n356 n358 n360 n362 n364 n366 n368 n370 n372 n374 n376 n378 n380 l382 n384 n386 n388 n390 n392 n394 n396 n398 n400 n402 n404 n406 n408 n410 n412 n414 n416 n418 n420 n422 n424 n426 n428 n430 n432 n434 n436 n438 n440 n442 n444 n446 n448 n450 n452 n454 n456 n458 n460 n462 n464 n466 n468 n470 n472 n474 n476 n478 n480 n482 n484 n486 n488 n490 n492 n494 n496 n498 n500 n502 n504 n506 n508 n510 n512 n514 n516 n518 n520 n522 n524 n526 n528 n530 n532 n534 n536 n538 n540 n542 n544 n546 n548 n550 n552 n554 n556 n558 n560 n562 n564 n566 n568 n570 n572 n574 n576 n578 n580 n582 n584 n586 n588 n590 n592 n594 n596 n598 n600 n602 n604 n606 n608 n610 n612 n614 n616 n618 n620 n622 n624 n626 n628 n630 n632 n634 n636 n638 n640 n642 n644 n646 n648 n650 n652 n654 n656 n658 n660 n662 n664 n666 n668 n670 n672 n674 n676 n678 n680 n682 n684 n686 n688 n690 n692 n694 n696 n698 n700 n702 n704 n706 n708 n710 n712 n714 n716 n718 n720 n722 n724 n726 n728 n730 n732 n734 n736 n738 n740 n742 n744 n746 n748 n750 n752 n754 n756 n758 n760 n762 n764 n766 n768 n770 n772 n774 n776 n778 n780 n782 n784 n786 n788 n790 n792 n794 n796 n798 n800 n802 n804 n806 n808 n810 n812 n814 n816 n818 n820 n822 n824 n826 n828 n830 l832 n834 n836 n838 n840 n842)), (.agg [J n845, J n847, J n849, J n851, J n853])] r313.2).bind fun r854 =>
 (AV.asTup 2 r854.1).bind fun c855 =>
 (AV.asAgg 264 (c855.getD 0 .u)).bind fun c856 =>
 w.U2 c856 fun n857 n858 n859 n860 n861 l862 l863 n864 l865 l866 n867 l868 n869 l870 l871 n872 l873 n874 n875 n876 n877 n878 n879 n880 n881 n882 n883 n884 n885 n886 n887 n888 n889 l890 n891 n892 n893 n894 n895 n896 n897 n898 n899 n900 n901 n902 n903 n904 n905 n906 n907 n908 n909 n910 n911 n912 n913 n914 n915 n916 n917 n918 n919 n920 n921 n922 n923 n924 n925 n926 n927 n928 n929 n930 n931 n932 n933 n934 n935 n936 n937 n938 n939 n940 n941 n942 n943 n944 n945 n946 n947 n948 n949 n950 n951 n952 n953 n954 n955 n956 n957 n958 n959 n960 n961 n962 n963 n964 n965 n966 n967 n968 n969 n970 n971 n972 n973 n974 n975 n976 n977 n978 n979 n980 n981 n982 n983 n984 n985 n986 n987 n988 n989 n990 n991 n992 n993 n994 n995 n996 n997 n998 n999 n1000 n1001 n1002 n1003 n1004 n1005 n1006 n1007 n1008 n1009 n1010 n1011 n1012 n1013 n1014 n1015 n1016 n1017 n1018 n1019 n1020 n1021 n1022 n1023 n1024 n1025 n1026 n1027 n1028 n1029 n1030 n1031 n1032 n1033 n1034 n1035 n1036 n1037 n1038 n1039 n1040 n1041 n1042 n1043 n1044 n1045 n1046 n1047 n1048 n1049 n1050 n1051 n1052 n1053 n1054 n1055 n1056 n1057 n1058 n1059 n1060 n1061 n1062 n1063 n1064 n1065 n1066 n1067 n1068 n1069 n1070 n1071 n1072 n1073 n1074 n1075 n1076 n1077 n1078 n1079 n1080 n1081 n1082 n1083 n1084 n1085 n1086 n1087 n1088 n1089 n1090 n1091 n1092 n1093 n1094 n1095 n1096 n1097 n1098 n1099 n1100 n1101 n1102 n1103 n1104 n1105 n1106 n1107 n1108 n1109 n1110 n1111 n1112 n1113 n1114 l1115 n1116 n1117 n1118 n1119 n1120 =>
 (AV.asB (c855.getD 1 .u)).bind fun b1121 =>
 (r854.2.st (.n r32.2.next) 0 (P8 n857 n858 n859 n860 n861 l862 l863 n864 l865 l866 n867 l868 n869 l870 l871 n872 l873 n874 n875 n876 n877 n878 n879 n880 n881 n882 n883 n884 n885 n886 n887 n888 n889 l890 n891 n892 n893 n894 n895 n896 n897 n898 n899 n900 n901 n902 n903 n904 n905 n906 n907 n908 n909 n910 n911 n912 n913 n914 n915 n916 n917 n918 n919 n920 n921 n922 n923 n924 n925 n926 n927 n928 n929 n930 n931 n932 n933 n934 n935 n936 n937 n938 n939 n940 n941 n942 n943 n944 n945 n946 n947 n948 n949 n950 n951 n952 n953 n954 n955 n956 n957 n958 n959 n960 n961 n962 n963 n964 n965 n966 n967 n968 n969 n970 n971 n972 n973 n974 n975 n976 n977 n978 n979 n980 n981 n982 n983 n984 n985 n986 n987 n988 n989 n990 n991 n992 n993 n994 n995 n996 n997 n998 n999 n1000 n1001 n1002 n1003 n1004 n1005 n1006 n1007 n1008 n1009 n1010 n1011 n1012 n1013 n1014 n1015 n1016 n1017 n1018 n1019 n1020 n1021 n1022 n1023 n1024 n1025 n1026 n1027 n1028 n1029 n1030 n1031 n1032 n1033 n1034 n1035 n1036 n1037 n1038 n1039 n1040 n1041 n1042 n1043 n1044 n1045 n1046 n1047 n1048 n1049 n1050 n1051 n1052 n1053 n1054 n1055 n1056 n1057 n1058 n1059 n1060 n1061 n1062 n1063 n1064 n1065 n1066 n1067 n1068 n1069 n1070 n1071 n1072 n1073 n1074 n1075 n1076 n1077 n1078 n1079 n1080 n1081 n1082 n1083 n1084 n1085 n1086 n1087 n1088 n1089 n1090 n1091 n1092 n1093 n1094 n1095 n1096 n1097 n1098 n1099 n1100 n1101 n1102 n1103 n1104 n1105 n1106 n1107 n1108 n1109 n1110 n1111 n1112 n1113 n1114 l1115 n1116 n1117 n1118 n1119 n1120)).bind fun h1122 =>
 (bif (!b1121) then
 none
 else some (Sum.inl ([(.i .i64 (IntKind.i64.wrap (n314 + 1)))], h1122)))
 else none)
 else some (Sum.inr ([], r313.2))))
def law40_Made_p (w : Words O) (k30 k31 k32 k33 k34 : Sm O) : Sm O := fun xs h =>
 bif Nat.beq xs.length 2 then
 (AV.asAgg 5 (xs.getD 0 .u)).bind fun c0 =>
 I6 c0 0 fun n1 => I6 c0 1 fun n2 => I6 c0 2 fun n3 => I6 c0 3 fun n4 => I6 c0 4 fun n5 => (AV.asSl (xs.getD 1 .u)).bind fun l6 =>
 let h7 := h.bump 2
 let h8 := h7.put h.next (.cells true 42 [J n1, J n2, J n3, J n4, J n5])
 let h9 := h8.put (h.next + 1) (.cells true 62 P7)
 (h9.ld (.n h.next) 0).bind fun w10 =>
 (AV.asI .i64 w10).bind fun n11 =>
 (h9.ld (.n h.next) 1).bind fun w12 =>
 (AV.asI .i64 w12).bind fun n13 =>
 (h9.ld (.n h.next) 2).bind fun w14 =>
 (AV.asI .i64 w14).bind fun n15 =>
 (h9.ld (.n h.next) 3).bind fun w16 =>
 (AV.asI .i64 w16).bind fun n17 =>
 (h9.ld (.n h.next) 4).bind fun w18 =>
 (AV.asI .i64 w18).bind fun n19 =>
 (k30 [(.agg [J n11, J n13, J n15, J n17, J n19])] h9).bind fun r20 =>
 (AV.asTup 2 r20.1).bind fun c21 =>
 (AV.asP (c21.getD 0 .u)).bind fun p22 =>
 I6 c21 1 fun n23 => ((bif ((Option.isNone p22) == false) then
 some ([(.b ((n23 : Int) != 0))], r20.2)
 else some ([(.b true)], r20.2)) : Option (List AV × AH O)).bind fun r24 =>
 (AV.asB (r24.1.getD 0 .u)).bind fun b25 =>
 ((bif (b25 == false) then
 (k31 [(.p p22)] r24.2).bind fun r26 =>
 (AV.asP r26.1).bind fun p27 =>
 some ([(.b (Option.isNone p27))], r26.2)
 else some ([(.b true)], r24.2)) : Option (List AV × AH O)).bind fun r28 =>
 (AV.asB (r28.1.getD 0 .u)).bind fun b29 =>
 ((bif (b29 == false) then
 (k32 [(.p p22)] r28.2).bind fun r30 =>
 (AV.asP r30.1).bind fun p31 =>
 some ([(.b (Option.isNone p31))], r30.2)
 else some ([(.b true)], r28.2)) : Option (List AV × AH O)).bind fun r32 =>
 (AV.asB (r32.1.getD 0 .u)).bind fun b33 =>
 (bif b33 then
 none
 else let h34 := r32.2.bump 1
 (h34.ld (.n h.next) 0).bind fun w35 =>
 (AV.asI .i64 w35).bind fun n36 =>
 (h34.ld (.n h.next) 1).bind fun w37 =>
 (AV.asI .i64 w37).bind fun n38 =>
 (h34.ld (.n h.next) 2).bind fun w39 =>
 (AV.asI .i64 w39).bind fun n40 =>
 (h34.ld (.n h.next) 3).bind fun w41 =>
 (AV.asI .i64 w41).bind fun n42 =>
 (h34.ld (.n h.next) 4).bind fun w43 =>
 (AV.asI .i64 w43).bind fun n44 =>
 (k33 [(.agg [J n36, J n38, J n40, J n42, J n44])] h34).bind fun r45 =>
 (AV.asAgg 264 r45.1).bind fun c46 =>
 w.U2 c46 fun n47 n48 n49 n50 n51 l52 l53 n54 l55 l56 n57 l58 n59 l60 l61 n62 l63 n64 n65 n66 n67 n68 n69 n70 n71 n72 n73 n74 n75 n76 n77 n78 n79 l80 n81 n82 n83 n84 n85 n86 n87 n88 n89 n90 n91 n92 n93 n94 n95 n96 n97 n98 n99 n100 n101 n102 n103 n104 n105 n106 n107 n108 n109 n110 n111 n112 n113 n114 n115 n116 n117 n118 n119 n120 n121 n122 n123 n124 n125 n126 n127 n128 n129 n130 n131 n132 n133 n134 n135 n136 n137 n138 n139 n140 n141 n142 n143 n144 n145 n146 n147 n148 n149 n150 n151 n152 n153 n154 n155 n156 n157 n158 n159 n160 n161 n162 n163 n164 n165 n166 n167 n168 n169 n170 n171 n172 n173 n174 n175 n176 n177 n178 n179 n180 n181 n182 n183 n184 n185 n186 n187 n188 n189 n190 n191 n192 n193 n194 n195 n196 n197 n198 n199 n200 n201 n202 n203 n204 n205 n206 n207 n208 n209 n210 n211 n212 n213 n214 n215 n216 n217 n218 n219 n220 n221 n222 n223 n224 n225 n226 n227 n228 n229 n230 n231 n232 n233 n234 n235 n236 n237 n238 n239 n240 n241 n242 n243 n244 n245 n246 n247 n248 n249 n250 n251 n252 n253 n254 n255 n256 n257 n258 n259 n260 n261 n262 n263 n264 n265 n266 n267 n268 n269 n270 n271 n272 n273 n274 n275 n276 n277 n278 n279 n280 n281 n282 n283 n284 n285 n286 n287 n288 n289 n290 n291 n292 n293 n294 n295 n296 n297 n298 n299 n300 n301 n302 n303 n304 l305 n306 n307 n308 n309 n310 =>
 let h311 := r45.2.put r32.2.next (.cells true 62 P7)
 (h311.st (.n r32.2.next) 0 (P8 n47 n48 n49 n50 n51 l52 l53 n54 l55 l56 n57 l58 n59 l60 l61 n62 l63 n64 n65 n66 n67 n68 n69 n70 n71 n72 n73 n74 n75 n76 n77 n78 n79 l80 n81 n82 n83 n84 n85 n86 n87 n88 n89 n90 n91 n92 n93 n94 n95 n96 n97 n98 n99 n100 n101 n102 n103 n104 n105 n106 n107 n108 n109 n110 n111 n112 n113 n114 n115 n116 n117 n118 n119 n120 n121 n122 n123 n124 n125 n126 n127 n128 n129 n130 n131 n132 n133 n134 n135 n136 n137 n138 n139 n140 n141 n142 n143 n144 n145 n146 n147 n148 n149 n150 n151 n152 n153 n154 n155 n156 n157 n158 n159 n160 n161 n162 n163 n164 n165 n166 n167 n168 n169 n170 n171 n172 n173 n174 n175 n176 n177 n178 n179 n180 n181 n182 n183 n184 n185 n186 n187 n188 n189 n190 n191 n192 n193 n194 n195 n196 n197 n198 n199 n200 n201 n202 n203 n204 n205 n206 n207 n208 n209 n210 n211 n212 n213 n214 n215 n216 n217 n218 n219 n220 n221 n222 n223 n224 n225 n226 n227 n228 n229 n230 n231 n232 n233 n234 n235 n236 n237 n238 n239 n240 n241 n242 n243 n244 n245 n246 n247 n248 n249 n250 n251 n252 n253 n254 n255 n256 n257 n258 n259 n260 n261 n262 n263 n264 n265 n266 n267 n268 n269 n270 n271 n272 n273 n274 n275 n276 n277 n278 n279 n280 n281 n282 n283 n284 n285 n286 n287 n288 n289 n290 n291 n292 n293 n294 n295 n296 n297 n298 n299 n300 n301 n302 n303 n304 l305 n306 n307 n308 n309 n310)).bind fun h312 =>
 (loopF (S := List AV × AH O) (T := List AV × AH O) (law40_Made_L1 w l6 r32 k34 p22) ([J 0], h312)).bind fun r1123 =>
 w.W2 r1123.2 (.n r32.2.next) 0 fun n1125 n1127 n1129 n1131 n1133 l1135 l1137 n1139 l1141 l1143 n1145 l1147 n1149 l1151 l1153 n1155 l1157 n1159 n1161 n1163 n1165 n1167 n1169 n1171 n1173 n1175 n1177 n1179 n1181 n1183 n1185 n1187 n1189 l1191 n1193 n1195 n1197 n1199 n1201 n1203 n1205 n1207 n1209 n1211 n1213 n1215 n1217 n1219 n1221 n1223 n1225 n1227 n1229 n1231 n1233 n1235 n1237 n1239 n1241 n1243 n1245 n1247 n1249 n1251 n1253 n1255 n1257 n1259 n1261 n1263 n1265 n1267 n1269 n1271 n1273 n1275 n1277 n1279 n1281 n1283 n1285 n1287 n1289 n1291 n1293 n1295 n1297 n1299 n1301 n1303 n1305 n1307 n1309 n1311 n1313 n1315 n1317 n1319 n1321 n1323 n1325 n1327 n1329 n1331 n1333 n1335 n1337 n1339 n1341 n1343 n1345 n1347 n1349 n1351 n1353 n1355 n1357 n1359 n1361 n1363 n1365 n1367 n1369 n1371 n1373 n1375 n1377 n1379 n1381 n1383 n1385 n1387 n1389 n1391 n1393 n1395 n1397 n1399 n1401 n1403 n1405 n1407 n1409 n1411 n1413 n1415 n1417 n1419 n1421 n1423 n1425 n1427 n1429 n1431 n1433 n1435 n1437 n1439 n1441 n1443 n1445 n1447 n1449 n1451 n1453 n1455 n1457 n1459 n1461 n1463 n1465 n1467 n1469 n1471 n1473 n1475 n1477 n1479 n1481 n1483 n1485 n1487 n1489 n1491 n1493 n1495 n1497 n1499 n1501 n1503 n1505 n1507 n1509 n1511 n1513 n1515 n1517 n1519 n1521 n1523 n1525 n1527 n1529 n1531 n1533 n1535 n1537 n1539 n1541 n1543 n1545 n1547 n1549 n1551 n1553 n1555 n1557 n1559 n1561 n1563 n1565 n1567 n1569 n1571 n1573 n1575 n1577 n1579 n1581 n1583 n1585 n1587 n1589 n1591 n1593 n1595 n1597 n1599 n1601 n1603 n1605 n1607 n1609 n1611 n1613 n1615 n1617 n1619 n1621 n1623 n1625 n1627 n1629 n1631 n1633 n1635 n1637 n1639 l1641 n1643 n1645 n1647 n1649 n1651 =>
 (r1123.2.st (.n (h.next + 1)) 0 (P8 n1125 n1127 n1129 n1131 n1133 l1135 l1137 n1139 l1141 l1143 n1145 l1147 n1149 l1151 l1153 n1155 l1157 n1159 n1161 n1163 n1165 n1167 n1169 n1171 n1173 n1175 n1177 n1179 n1181 n1183 n1185 n1187 n1189 l1191 n1193 n1195 n1197 n1199 n1201 n1203 n1205 n1207 n1209 n1211 n1213 n1215 n1217 n1219 n1221 n1223 n1225 n1227 n1229 n1231 n1233 n1235 n1237 n1239 n1241 n1243 n1245 n1247 n1249 n1251 n1253 n1255 n1257 n1259 n1261 n1263 n1265 n1267 n1269 n1271 n1273 n1275 n1277 n1279 n1281 n1283 n1285 n1287 n1289 n1291 n1293 n1295 n1297 n1299 n1301 n1303 n1305 n1307 n1309 n1311 n1313 n1315 n1317 n1319 n1321 n1323 n1325 n1327 n1329 n1331 n1333 n1335 n1337 n1339 n1341 n1343 n1345 n1347 n1349 n1351 n1353 n1355 n1357 n1359 n1361 n1363 n1365 n1367 n1369 n1371 n1373 n1375 n1377 n1379 n1381 n1383 n1385 n1387 n1389 n1391 n1393 n1395 n1397 n1399 n1401 n1403 n1405 n1407 n1409 n1411 n1413 n1415 n1417 n1419 n1421 n1423 n1425 n1427 n1429 n1431 n1433 n1435 n1437 n1439 n1441 n1443 n1445 n1447 n1449 n1451 n1453 n1455 n1457 n1459 n1461 n1463 n1465 n1467 n1469 n1471 n1473 n1475 n1477 n1479 n1481 n1483 n1485 n1487 n1489 n1491 n1493 n1495 n1497 n1499 n1501 n1503 n1505 n1507 n1509 n1511 n1513 n1515 n1517 n1519 n1521 n1523 n1525 n1527 n1529 n1531 n1533 n1535 n1537 n1539 n1541 n1543 n1545 n1547 n1549 n1551 n1553 n1555 n1557 n1559 n1561 n1563 n1565 n1567 n1569 n1571 n1573 n1575 n1577 n1579 n1581 n1583 n1585 n1587 n1589 n1591 n1593 n1595 n1597 n1599 n1601 n1603 n1605 n1607 n1609 n1611 n1613 n1615 n1617 n1619 n1621 n1623 n1625 n1627 n1629 n1631 n1633 n1635 n1637 n1639 l1641 n1643 n1645 n1647 n1649 n1651)).bind fun h1652 =>
 w.W2 h1652 (.n (h.next + 1)) 0 fun n1654 n1656 n1658 n1660 n1662 l1664 l1666 n1668 l1670 l1672 n1674 l1676 n1678 l1680 l1682 n1684 l1686 n1688 n1690 n1692 n1694 n1696 n1698 n1700 n1702 n1704 n1706 n1708 n1710 n1712 n1714 n1716 n1718 l1720 n1722 n1724 n1726 n1728 n1730 n1732 n1734 n1736 n1738 n1740 n1742 n1744 n1746 n1748 n1750 n1752 n1754 n1756 n1758 n1760 n1762 n1764 n1766 n1768 n1770 n1772 n1774 n1776 n1778 n1780 n1782 n1784 n1786 n1788 n1790 n1792 n1794 n1796 n1798 n1800 n1802 n1804 n1806 n1808 n1810 n1812 n1814 n1816 n1818 n1820 n1822 n1824 n1826 n1828 n1830 n1832 n1834 n1836 n1838 n1840 n1842 n1844 n1846 n1848 n1850 n1852 n1854 n1856 n1858 n1860 n1862 n1864 n1866 n1868 n1870 n1872 n1874 n1876 n1878 n1880 n1882 n1884 n1886 n1888 n1890 n1892 n1894 n1896 n1898 n1900 n1902 n1904 n1906 n1908 n1910 n1912 n1914 n1916 n1918 n1920 n1922 n1924 n1926 n1928 n1930 n1932 n1934 n1936 n1938 n1940 n1942 n1944 n1946 n1948 n1950 n1952 n1954 n1956 n1958 n1960 n1962 n1964 n1966 n1968 n1970 n1972 n1974 n1976 n1978 n1980 n1982 n1984 n1986 n1988 n1990 n1992 n1994 n1996 n1998 n2000 n2002 n2004 n2006 n2008 n2010 n2012 n2014 n2016 n2018 n2020 n2022 n2024 n2026 n2028 n2030 n2032 n2034 n2036 n2038 n2040 n2042 n2044 n2046 n2048 n2050 n2052 n2054 n2056 n2058 n2060 n2062 n2064 n2066 n2068 n2070 n2072 n2074 n2076 n2078 n2080 n2082 n2084 n2086 n2088 n2090 n2092 n2094 n2096 n2098 n2100 n2102 n2104 n2106 n2108 n2110 n2112 n2114 n2116 n2118 n2120 n2122 n2124 n2126 n2128 n2130 n2132 n2134 n2136 n2138 n2140 n2142 n2144 n2146 n2148 n2150 n2152 n2154 n2156 n2158 n2160 n2162 n2164 n2166 n2168 l2170 n2172 n2174 n2176 n2178 n2180 =>
 some ((.tup [(.p p22), (.agg (P8 n1654 n1656 n1658 n1660 n1662 l1664 l1666 n1668 l1670 l1672 n1674 l1676 n1678 l1680 l1682 n1684 l1686 n1688 n1690 n1692 n1694 n1696 n1698 n1700 n1702 n1704 n1706 n1708 n1710 n1712 n1714 n1716 n1718 l1720 n1722 n1724 n1726 n1728 n1730 n1732 n1734 n1736 n1738 n1740 n1742 n1744 n1746 n1748 n1750 n1752 n1754 n1756 n1758 n1760 n1762 n1764 n1766 n1768 n1770 n1772 n1774 n1776 n1778 n1780 n1782 n1784 n1786 n1788 n1790 n1792 n1794 n1796 n1798 n1800 n1802 n1804 n1806 n1808 n1810 n1812 n1814 n1816 n1818 n1820 n1822 n1824 n1826 n1828 n1830 n1832 n1834 n1836 n1838 n1840 n1842 n1844 n1846 n1848 n1850 n1852 n1854 n1856 n1858 n1860 n1862 n1864 n1866 n1868 n1870 n1872 n1874 n1876 n1878 n1880 n1882 n1884 n1886 n1888 n1890 n1892 n1894 n1896 n1898 n1900 n1902 n1904 n1906 n1908 n1910 n1912 n1914 n1916 n1918 n1920 n1922 n1924 n1926 n1928 n1930 n1932 n1934 n1936 n1938 n1940 n1942 n1944 n1946 n1948 n1950 n1952 n1954 n1956 n1958 n1960 n1962 n1964 n1966 n1968 n1970 n1972 n1974 n1976 n1978 n1980 n1982 n1984 n1986 n1988 n1990 n1992 n1994 n1996 n1998 n2000 n2002 n2004 n2006 n2008 n2010 n2012 n2014 n2016 n2018 n2020 n2022 n2024 n2026 n2028 n2030 n2032 n2034 n2036 n2038 n2040 n2042 n2044 n2046 n2048 n2050 n2052 n2054 n2056 n2058 n2060 n2062 n2064 n2066 n2068 n2070 n2072 n2074 n2076 n2078 n2080 n2082 n2084 n2086 n2088 n2090 n2092 n2094 n2096 n2098 n2100 n2102 n2104 n2106 n2108 n2110 n2112 n2114 n2116 n2118 n2120 n2122 n2124 n2126 n2128 n2130 n2132 n2134 n2136 n2138 n2140 n2142 n2144 n2146 n2148 n2150 n2152 n2154 n2156 n2158 n2160 n2162 n2164 n2166 n2168 l2170 n2172 n2174 n2176 n2178 n2180)), (.b true)]), h1652))
 else none
def law40_Made_c (k30 k31 k32 k33 k34 : Sm O) : Sm O := law40_Made_p fastWords k30 k31 k32 k33 k34
def law40_Made : Sm O := law40_Made_c heap_New heap_Heap__Space heap_Heap__Roots haymowref33_New law33_Do
theorem law40_Made_ent : Entered Tryz.prog 15 := Tryz.call15
theorem law40_Made_run (k30 k31 k32 k33 k34 : Sm O) : run (O := O) Tryz.prog [(30, k30), (31, k31), (32, k32), (33, k33), (34, k34)] Tryz.f15 (.n .z (.n .z (.n (.n (.g [(2, 2, [(22, .one .b)]), (6, 3, [(27, .one .b)]), (11, 3, [(32, .one .b)])]) (.n .x .z)) (.n .z (.n (.n .z (.n (.lp false 0 [(10, .one (.i .i64))] [] (.n (.n .z .z) (.n (.n (.n .z (.n (.d [] [0, 1, 2, 3, 4, 5, 6, 7, 8, 9, 10, 11] [0, 0, 0, 0, 12, 28, 63, 127, 255, 255, 511, 2047]) (.n .z (.n .x .z)))) .z) .z))) .z)) (.n (.d [] [0, 1, 2, 3, 4] [0, 0, 1, 7, 15]) .z)))))) = law40_Made_c k30 k31 k32 k33 k34 :=
 (show run (O := O) Tryz.prog [(30, k30), (31, k31), (32, k32), (33, k33), (34, k34)] Tryz.f15 (.n .z (.n .z (.n (.n (.g [(2, 2, [(22, .one .b)]), (6, 3, [(27, .one .b)]), (11, 3, [(32, .one .b)])]) (.n .x .z)) (.n .z (.n (.n .z (.n (.lp false 0 [(10, .one (.i .i64))] [] (.n (.n .z .z) (.n (.n (.n .z (.n (.d [] [0, 1, 2, 3, 4, 5, 6, 7, 8, 9, 10, 11] [0, 0, 0, 0, 12, 28, 63, 127, 255, 255, 511, 2047]) (.n .z (.n .x .z)))) .z) .z))) .z)) (.n (.d [] [0, 1, 2, 3, 4] [0, 0, 1, 7, 15]) .z)))))) = law40_Made_p slowWords k30 k31 k32 k33 k34 by kernel_rfl).trans (congrArg (fun w => law40_Made_p w k30 k31 k32 k33 k34) words_eq)
theorem law40_Made_sound : FSound RO Tryz.prog 15 law40_Made := sdf (law40_Made_run _ _ _ _ _) (gcons heap_New_ent heap_New_sound <| gcons heap_Heap__Space_ent heap_Heap__Space_sound <| gcons heap_Heap__Roots_ent heap_Heap__Roots_sound <| gcons haymowref33_New_ent haymowref33_New_sound <| gcons law33_Do_ent law33_Do_sound <| gnil) Tryz.func15 (by kernel_rfl)
def canon_numbers__number_c : Sm O := fun xs h =>
 bif Nat.beq xs.length 2 then
 (AV.asP (xs.getD 0 .u)).bind fun p0 =>
 (AV.asI .u64 (xs.getD 1 .u)).bind fun n1 =>
 (bif ((n1 : Int) == 0) then
 none
 else Option.bind p0 fun q2 =>
 (h.ld q2.1 q2.2).bind fun w3 =>
 (AV.asMp w3).bind fun m4 =>
 (entsOf h (.mp m4)).bind fun m5 =>
 (findM .u64 n1 m5).bind fun f6 =>
 (AV.asI .i64 (lookV f6 (.i .i64 0))).bind fun n7 =>
 ((bif ((n7 : Int) == 0) then
 let h8 := h.bump 2
 Option.bind p0 fun q9 =>
 (h8.ld q9.1 (q9.2 + 1)).bind fun w10 =>
 (AV.asSl w10).bind fun l11 =>
 let h12 := h8.put h.next (.cells true 107 [(.i .u64 n1)])
 (h12.rdSl (.loc (.n h.next) 0 1) 1 1).bind fun new13 =>
 (bif (Nat.ble ((l11.2 + 1) * 9) 35184372088832) then
 (h12.appSl (h.next + 1) 107 1 l11.1 l11.2 1 new13).bind fun r14 =>
 (AV.asSl r14.1).bind fun l15 =>
 Option.bind p0 fun q16 =>
 (r14.2.st q16.1 (q16.2 + 1) [L l15]).bind fun h17 =>
 Option.bind p0 fun q18 =>
 (h17.ld q18.1 q18.2).bind fun w19 =>
 (AV.asMp w19).bind fun m20 =>
 Option.bind p0 fun q21 =>
 (h17.ld q21.1 (q21.2 + 1)).bind fun w22 =>
 (AV.asSl w22).bind fun l23 =>
 Option.bind m20 fun b24 =>
 (entsOf h17 (.mp (some b24))).bind fun m25 =>
 (findM .u64 n1 m25).bind fun f26 =>
 let h27 := h17.put b24 (updB h17 b24 f26 m25 (.i .u64 n1) (.i .i64 (l23.2 : Int)))
 some ([], h27)
 else none)
 else some ([], h)) : Option (List AV × AH O)).bind fun r28 =>
 Option.bind p0 fun q29 =>
 (r28.2.ld q29.1 q29.2).bind fun w30 =>
 (AV.asMp w30).bind fun m31 =>
 (entsOf r28.2 (.mp m31)).bind fun m32 =>
 (findM .u64 n1 m32).bind fun f33 =>
 (AV.asI .i64 (lookV f33 (.i .i64 0))).bind fun n34 =>
 some (J n34, r28.2))
 else none
def canon_numbers__number : Sm O := canon_numbers__number_c
theorem canon_numbers__number_ent : Entered Tryz.prog 37 := Tryz.call37
theorem canon_numbers__number_run : run (O := O) Tryz.prog [] Tryz.f37 (.n .z (.n (.n .z (.n .x .z)) (.n (.n .z (.j false [] (.n .z (.d [] [0, 1, 2, 3, 4, 5, 6, 7, 8, 9, 10] [0, 1, 3, 7, 0, 0, 32, 96, 224, 480, 1023])) .z)) .z))) = canon_numbers__number_c  := by kernel_rfl
theorem canon_numbers__number_sound : FSound RO Tryz.prog 37 canon_numbers__number := sdf canon_numbers__number_run (gnil) Tryz.func37 (by kernel_rfl)
def canon_Of_1_c (k37 : Sm O) : Sm O := fun xs h =>
 bif Nat.beq xs.length 3 then
 (AV.asI .u64 (xs.getD 0 .u)).bind fun n0 =>
 let h1 := h.bump 2
 (AV.asPS (xs.getD 1 .u)).bind fun q2 =>
 (h1.ld q2.1 (q2.2 + 1)).bind fun w3 =>
 (AV.asSl w3).bind fun l4 =>
 (AV.asPS (xs.getD 2 .u)).bind fun q5 =>
 (h1.ld q5.1 q5.2).bind fun w6 =>
 (AV.asP w6).bind fun p7 =>
 (AV.asPS (xs.getD 2 .u)).bind fun q8 =>
 (k37 [(.p p7), (.i .u64 n0)] h1).bind fun r9 =>
 (AV.asI .i64 r9.1).bind fun n10 =>
 (chkE (r9.2.ld q2.1 (q2.2 + 1)) (some (.sl l4.1 l4.2))).bind fun _ =>
 let h11 := r9.2.put h.next (.cells true 3 [J n10])
 (h11.rdSl (.loc (.n h.next) 0 1) 1 1).bind fun new12 =>
 (bif (Nat.ble ((l4.2 + 1) * 9) 35184372088832) then
 (h11.appSl (h.next + 1) 3 1 l4.1 l4.2 1 new12).bind fun r13 =>
 (AV.asSl r13.1).bind fun l14 =>
 (AV.asPS (xs.getD 1 .u)).bind fun q15 =>
 (r13.2.st q15.1 (q15.2 + 1) [L l14]).bind fun h16 =>
 some ((.i .u64 n0), h16)
 else none)
 else none
def canon_Of_1 : Sm O := canon_Of_1_c canon_numbers__number
theorem canon_Of_1_ent : Entered Tryz.prog 36 := Tryz.call36
theorem canon_Of_1_run (k37 : Sm O) : run (O := O) Tryz.prog [(37, k37)] Tryz.f36 (.n .z (.n (.d [] [0, 1, 2, 3, 4, 5, 6, 7, 8] [0, 1, 0, 0, 12, 28, 63, 127, 255]) .z)) = canon_Of_1_c k37 := by kernel_rfl
theorem canon_Of_1_sound : FSound RO Tryz.prog 36 canon_Of_1 := sdf (canon_Of_1_run _) (gcons canon_numbers__number_ent canon_numbers__number_sound <| gnil) Tryz.func36 (by kernel_rfl)
def frames_Frames__Turn_L1  : List AV × AH O → Option ((List AV × AH O) ⊕ (List AV × AH O)) := (fun r13 =>
 (AV.asB (r13.1.getD 0 .u)).bind fun b14 =>
 (bif b14 then
 none
 else some (Sum.inr ([], r13.2))))
def frames_Frames__Turn_c (k122 k123 k36 : Sm O) : Sm O := fun xs h =>
 bif Nat.beq xs.length 2 then
 (AV.asP (xs.getD 0 .u)).bind fun p0 =>
 (AV.asF (xs.getD 1 .u)).bind fun f1 =>
 (bif (Option.isNone f1) then
 none
 else let h2 := h.bump 1
 Option.bind p0 fun q3 =>
 (h2.ld q3.1 (q3.2 + 5)).bind fun w4 =>
 (AV.asI .i64 w4).bind fun n5 =>
 (h2.ld q3.1 ((q3.2 + 5) + 1)).bind fun w6 =>
 (AV.asI .i64 w6).bind fun n7 =>
 Option.bind p0 fun q8 =>
 (h2.ld q8.1 (q8.2 + 4)).bind fun w9 =>
 (AV.asI .i64 w9).bind fun n10 =>
 let h11 := h2.put h.next (.cells true 227 [J 0, J 0])
 (h11.st (.n h.next) 0 [J n5, J n7]).bind fun h12 =>
 (chkE (h12.ld q8.1 (q8.2 + 4)) (some (.i .i64 n10))).bind fun _ =>
 (loopF (S := List AV × AH O) (T := List AV × AH O) (frames_Frames__Turn_L1) ([(.b (decide (n10 > 0)))], h12)).bind fun r15 =>
 some ((.tup []), r15.2))
 else none
def frames_Frames__Turn : Sm O := frames_Frames__Turn_c mem_Mem__Read mem_Mem__Write canon_Of_1
theorem frames_Frames__Turn_ent : Entered Tryz.prog 65 := Tryz.call65
theorem frames_Frames__Turn_run (k122 k123 k36 : Sm O) : run (O := O) Tryz.prog [(122, k122), (123, k123), (36, k36)] Tryz.f65 (.n (.n .z (.n .x .z)) (.n (.d [] [0, 1, 2, 3, 4, 5, 6, 7, 8, 9, 10, 11] [0, 1, 3, 7, 0, 16, 48, 112, 240, 0, 527, 2047]) (.n (.lp false 0 [(5, .one .b)] [] (.n (.n .z (.n .x .z)) (.n (.n (.n .z (.n (.lp false 1000000 [(24, .one (.i .i64))] [] (.n .z (.n (.n .x .x) (.n (.n (.n .z (.n .z (.n (.d [] [0, 1, 2, 3, 4, 5, 6, 7, 8, 9, 10, 11, 12, 13, 14] [0, 1, 3, 7, 0, 16, 48, 112, 0, 511, 1023, 2047, 2047, 4095, 16383]) (.n .z (.n .x .x))))) .z) .z)))) .z)) .z) .z))) .z))) = frames_Frames__Turn_c k122 k123 k36 := by kernel_rfl
theorem frames_Frames__Turn_sound : FSound RO Tryz.prog 65 frames_Frames__Turn := sdf (frames_Frames__Turn_run _ _ _) (gcons mem_Mem__Read_ent mem_Mem__Read_sound <| gcons mem_Mem__Write_ent mem_Mem__Write_sound <| gcons canon_Of_1_ent canon_Of_1_sound <| gnil) Tryz.func65 (by kernel_rfl)
def chain_Table__get_c (k325 k122 : Sm O) : Sm O := fun xs h =>
 bif Nat.beq xs.length 3 then
 (AV.asAgg 5 (xs.getD 0 .u)).bind fun c0 =>
 (AV.asP (c0.getD 0 .u)).bind fun p1 =>
 I6 c0 1 fun n2 => I6 c0 2 fun n3 => I6 c0 3 fun n4 => I6 c0 4 fun n5 => (AV.asI .i64 (xs.getD 1 .u)).bind fun n6 =>
 (AV.asI .i64 (xs.getD 2 .u)).bind fun n7 =>
 let h8 := h.bump 1
 let h9 := h8.put h.next (.cells true 235 [(.p p1), J n2, J n3, J n4, J n5])
 (h9.ld (.n h.next) 0).bind fun w10 =>
 (AV.asP w10).bind fun p11 =>
 (h9.ld (.n h.next) 1).bind fun w12 =>
 (AV.asI .i64 w12).bind fun n13 =>
 (h9.ld (.n h.next) 0).bind fun w14 =>
 (AV.asP w14).bind fun p15 =>
 (h9.ld (.n h.next) 1).bind fun w16 =>
 (AV.asI .i64 w16).bind fun n17 =>
 (h9.ld (.n h.next) 2).bind fun w18 =>
 (AV.asI .i64 w18).bind fun n19 =>
 (h9.ld (.n h.next) 3).bind fun w20 =>
 (AV.asI .i64 w20).bind fun n21 =>
 (h9.ld (.n h.next) 4).bind fun w22 =>
 (AV.asI .i64 w22).bind fun n23 =>
 (k325 [(.agg [(.p p15), J n17, J n19, J n21, J n23]), J n6, J n7] h9).bind fun r24 =>
 (AV.asI .i64 r24.1).bind fun n25 =>
 (chkE (r24.2.ld (.n h.next) 0) (some (.p p11))).bind fun _ =>
 (chkE (r24.2.ld (.n h.next) 1) (some (.i .i64 n13))).bind fun _ =>
 (k122 [(.p p11), J n13, J n25] r24.2).bind fun r26 =>
 (AV.asTup 2 r26.1).bind fun c27 =>
 (AV.asI .u64 (c27.getD 0 .u)).bind fun n28 =>
 I6 c27 1 fun n29 => some ((.i .i64 (IntKind.i64.wrap n28)), r26.2)
 else none
def chain_Table__get : Sm O := chain_Table__get_c chain_Table__at mem_Mem__Read
theorem chain_Table__get_ent : Entered Tryz.prog 264 := Tryz.call264
theorem chain_Table__get_run (k325 k122 : Sm O) : run (O := O) Tryz.prog [(325, k325), (122, k122)] Tryz.f264 (.n .z (.n (.d [] [0, 1, 2, 3, 4, 5, 6, 7, 8, 9, 10, 11, 12, 13] [0, 1, 0, 4, 0, 0, 0, 112, 255, 511, 1023, 1023, 2047, 8191]) .z)) = chain_Table__get_c k325 k122 := by kernel_rfl
theorem chain_Table__get_sound : FSound RO Tryz.prog 264 chain_Table__get := sdf (chain_Table__get_run _ _) (gcons chain_Table__at_ent chain_Table__at_sound <| gcons mem_Mem__Read_ent mem_Mem__Read_sound <| gnil) Tryz.func264 (by kernel_rfl)
def chain_Table__After_c (k263 k264 : Sm O) : Sm O := fun xs h =>
 bif Nat.beq xs.length 2 then
 (AV.asAgg 5 (xs.getD 0 .u)).bind fun c0 =>
 (AV.asP (c0.getD 0 .u)).bind fun p1 =>
 I6 c0 1 fun n2 => I6 c0 2 fun n3 => I6 c0 3 fun n4 => I6 c0 4 fun n5 => (AV.asI .i64 (xs.getD 1 .u)).bind fun n6 =>
 let h7 := h.bump 1
 let h8 := h7.put h.next (.cells true 235 [(.p p1), J n2, J n3, J n4, J n5])
 (h8.ld (.n h.next) 0).bind fun w9 =>
 (AV.asP w9).bind fun p10 =>
 (h8.ld (.n h.next) 1).bind fun w11 =>
 (AV.asI .i64 w11).bind fun n12 =>
 (h8.ld (.n h.next) 2).bind fun w13 =>
 (AV.asI .i64 w13).bind fun n14 =>
 (h8.ld (.n h.next) 3).bind fun w15 =>
 (AV.asI .i64 w15).bind fun n16 =>
 (h8.ld (.n h.next) 4).bind fun w17 =>
 (AV.asI .i64 w17).bind fun n18 =>
 (k263 [(.agg [(.p p10), J n12, J n14, J n16, J n18]), J n6] h8).bind fun r19 =>
 (AV.asI .i64 r19.1).bind fun n20 =>
 (bif ((n20 : Int) != 0) then
 none
 else (r19.2.ld (.n h.next) 0).bind fun w21 =>
 (AV.asP w21).bind fun p22 =>
 (r19.2.ld (.n h.next) 1).bind fun w23 =>
 (AV.asI .i64 w23).bind fun n24 =>
 (r19.2.ld (.n h.next) 2).bind fun w25 =>
 (AV.asI .i64 w25).bind fun n26 =>
 (r19.2.ld (.n h.next) 3).bind fun w27 =>
 (AV.asI .i64 w27).bind fun n28 =>
 (r19.2.ld (.n h.next) 4).bind fun w29 =>
 (AV.asI .i64 w29).bind fun n30 =>
 (r19.2.ld (.n h.next) 3).bind fun w31 =>
 (AV.asI .i64 w31).bind fun n32 =>
 (k264 [(.agg [(.p p22), J n24, J n26, J n28, J n30]), J n6, J n32] r19.2).bind fun r33 =>
 (AV.asI .i64 r33.1).bind fun n34 =>
 some ((.tup [J n34, J 0]), r33.2))
 else none
def chain_Table__After : Sm O := chain_Table__After_c chain_Table__check chain_Table__get
theorem chain_Table__After_ent : Entered Tryz.prog 204 := Tryz.call204
theorem chain_Table__After_run (k263 k264 : Sm O) : run (O := O) Tryz.prog [(263, k263), (264, k264)] Tryz.f204 (.n .z (.n (.n .z (.n .z (.n .x .z))) .z)) = chain_Table__After_c k263 k264 := by kernel_rfl
theorem chain_Table__After_sound : FSound RO Tryz.prog 204 chain_Table__After := sdf (chain_Table__After_run _ _) (gcons chain_Table__check_ent chain_Table__check_sound <| gcons chain_Table__get_ent chain_Table__get_sound <| gnil) Tryz.func204 (by kernel_rfl)
def chain_Table__All_1_L1 (n6 : Int) (k204 : Sm O) (ky0 : Sm O) (f0 : Option (Fn × List AV × List AV)) (xs : List AV) : List AV × AH O → Option ((List AV × AH O) ⊕ (List AV × AH O)) := (fun r7 =>
 (AV.asI .i64 (r7.1.getD 0 .u)).bind fun n8 =>
 (AV.asI .i64 (r7.1.getD 1 .u)).bind fun n9 =>
 (bif (decide (n9 < n6)) then
 (callV [(204, k204), (1000000, ky0)] f0 [J n8] r7.2).bind fun r10 =>
 (AV.asB r10.1).bind fun b11 =>
 (bif (!b11) then
 none
 else (AV.asPS (xs.getD 2 .u)).bind fun q12 =>
 (r10.2.ld q12.1 q12.2).bind fun w13 =>
 (AV.asP w13).bind fun p14 =>
 (r10.2.ld q12.1 (q12.2 + 1)).bind fun w15 =>
 (AV.asI .i64 w15).bind fun n16 =>
 (r10.2.ld q12.1 ((q12.2 + 1) + 1)).bind fun w17 =>
 (AV.asI .i64 w17).bind fun n18 =>
 (r10.2.ld q12.1 (((q12.2 + 1) + 1) + 1)).bind fun w19 =>
 (AV.asI .i64 w19).bind fun n20 =>
 (r10.2.ld q12.1 ((((q12.2 + 1) + 1) + 1) + 1)).bind fun w21 =>
 (AV.asI .i64 w21).bind fun n22 =>
 (k204 [(.agg [(.p p14), J n16, J n18, J n20, J n22]), J n8] r10.2).bind fun r23 =>
 (AV.asTup 2 r23.1).bind fun c24 =>
 I6 c24 0 fun n25 => I6 c24 1 fun n26 => (bif ((n26 : Int) != 0) then
 none
 else some (Sum.inl ([J n25, (.i .i64 (IntKind.i64.wrap (n9 + 1)))], r23.2))))
 else some (Sum.inr ([], r7.2))))
def chain_Table__All_1_c (k204 ky0 : Sm O) : Sm O := fun xs h =>
 bif Nat.beq xs.length 3 then
 (AV.asF (xs.getD 0 .u)).bind fun f0 =>
 (AV.asPS (xs.getD 1 .u)).bind fun q1 =>
 (h.ld q1.1 q1.2).bind fun w2 =>
 (AV.asI .i64 w2).bind fun n3 =>
 (AV.asPS (xs.getD 1 .u)).bind fun q4 =>
 (h.ld q4.1 (q4.2 + 2)).bind fun w5 =>
 (AV.asI .i64 w5).bind fun n6 =>
 (loopF (S := List AV × AH O) (T := List AV × AH O) (chain_Table__All_1_L1 n6 k204 ky0 f0 xs) ([J n3, J 0], h)).bind fun r27 =>
 some ((.tup []), r27.2)
 else none
def chain_Table__All_1 (ky0 : Sm O) : Sm O := chain_Table__All_1_c chain_Table__After ky0
theorem chain_Table__All_1_ent : Entered Tryz.prog 203 := Tryz.call203
theorem chain_Table__All_1_run (k204 ky0 : Sm O) : run (O := O) Tryz.prog [(204, k204), (1000000, ky0)] Tryz.f203 (.n .z (.n .z (.n (.lp false 0 [(4, .one (.i .i64)), (11, .one (.i .i64))] [] (.n .z (.n .z (.n (.n (.n (.n .z (.n .x .z)) (.n .z (.n (.n .z (.n .x .z)) .z))) .z) .z)))) .z))) = chain_Table__All_1_c k204 ky0 := by kernel_rfl
theorem chain_Table__All_1_sound {ky0 : Sm O} (hy : YSound RO Tryz.prog ky0) : FSound RO Tryz.prog 203 (chain_Table__All_1 ky0) :=
   have h : FSound RO Tryz.prog 203 (chain_Table__All_1_c chain_Table__After ky0) := (chain_Table__All_1_run chain_Table__After ky0) ▸ run_sound (gcons chain_Table__After_ent (chain_Table__After_sound) <| gyld hy <| gnil) mixed Tryz.func203 (by kernel_rfl) _
   h
def chain_Table__All_c : Sm O := fun xs h =>
 bif Nat.beq xs.length 2 then
 (AV.asAgg 5 (xs.getD 0 .u)).bind fun c0 =>
 (AV.asP (c0.getD 0 .u)).bind fun p1 =>
 I6 c0 1 fun n2 => I6 c0 2 fun n3 => I6 c0 3 fun n4 => I6 c0 4 fun n5 => (AV.asAgg 3 (xs.getD 1 .u)).bind fun c6 =>
 I6 c6 0 fun n7 => I6 c6 1 fun n8 => I6 c6 2 fun n9 => let h10 := h.bump 2
 let h11 := h10.put h.next (.cells true 235 [(.p p1), J n2, J n3, J n4, J n5])
 let h12 := h11.put (h.next + 1) (.cells true 240 [J n7, J n8, J n9])
 some ((.fn (some (.func 203, [], [(.p (some ((.n (h.next + 1)), 0))), (.p (some ((.n h.next), 0)))]))), h12)
 else none
def chain_Table__All : Sm O := chain_Table__All_c
theorem chain_Table__All_ent : Entered Tryz.prog 126 := Tryz.call126
theorem chain_Table__All_run : run (O := O) Tryz.prog [] Tryz.f126 (.n .z .z) = chain_Table__All_c  := by kernel_rfl
theorem chain_Table__All_sound : FSound RO Tryz.prog 126 chain_Table__All := sdf chain_Table__All_run (gnil) Tryz.func126 (by kernel_rfl)
def handles_Handles__Turn_R0_c (k127 k128 k36 : Sm O) : Sm O := roundW 66000 1 fun env0 ys0 blk0 h =>
 (AV.asP (env0 2)).bind fun p0 =>
 (AV.asP (env0 3)).bind fun p1 =>
 (AV.asI .i64 (ys0.getD 0 .u)).bind fun n2 =>
 (busyL h blk0).bind fun h3 =>
 Option.bind p0 fun q4 =>
 (h3.ld q4.1 q4.2).bind fun w5 =>
 (AV.asP w5).bind fun p6 =>
 Option.bind p6 fun q7 =>
 (h3.ld q7.1 q7.2).bind fun w8 =>
 (AV.asP w8).bind fun p9 =>
 (k127 [(.p p9), J n2, J 0] h3).bind fun r10 =>
 (AV.asTup 2 r10.1).bind fun c11 =>
 (AV.asI .u64 (c11.getD 0 .u)).bind fun n12 =>
 I6 c11 1 fun n13 => (bif ((n12 : Int) != 0) then
 Option.bind p0 fun q14 =>
 (r10.2.ld q14.1 q14.2).bind fun w15 =>
 (AV.asP w15).bind fun p16 =>
 Option.bind p0 fun q17 =>
 Option.bind p16 fun q18 =>
 (r10.2.ld q18.1 q18.2).bind fun w19 =>
 (AV.asP w19).bind fun p20 =>
 Option.bind p1 fun q21 =>
 (r10.2.ld q21.1 q21.2).bind fun w22 =>
 (AV.asF w22).bind fun f23 =>
 Option.bind p1 fun q24 =>
 (callV [(127, k127), (128, k128), (36, k36)] f23 [(.i .u64 n12)] r10.2).bind fun r25 =>
 (AV.asI .u64 r25.1).bind fun n26 =>
 (chkE (r25.2.ld q17.1 q17.2) (some (.p p16))).bind fun _ =>
 (chkE (r25.2.ld q18.1 q18.2) (some (.p p20))).bind fun _ =>
 (k128 [(.p p20), J n2, J 0, (.i .u64 n26)] r25.2).bind fun r27 =>
 (AV.asI .i64 r27.1).bind fun n28 =>
 (markL r27.2 blk0 .ready).bind fun h => some (.b true, h)
 else none)
def handles_Handles__Turn_R0 : Sm O := handles_Handles__Turn_R0_c pool_Pool__Get pool_Pool__Set canon_Of_1
theorem handles_Handles__Turn_R0_run (k127 k128 k36 : Sm O) : roundAt (O := O) Tryz.prog [(127, k127), (128, k128), (36, k36)] 66 Tryz.f66 0 [(2, .one .p), (3, .one .p)] [(16, .one (.i .i64))] (.n .z (.n (.n .z (.n .z (.n (.d [] [0, 1, 2, 3, 4, 5, 6, 7, 8] [0, 1, 3, 7, 0, 0, 0, 96, 255]) .x))) .z)) = handles_Handles__Turn_R0_c k127 k128 k36 := by kernel_rfl
theorem handles_Handles__Turn_R0_sound : YSound RO Tryz.prog (handles_Handles__Turn_R0) :=
   have h : YSound RO Tryz.prog (handles_Handles__Turn_R0_c pool_Pool__Get pool_Pool__Set canon_Of_1) := (handles_Handles__Turn_R0_run pool_Pool__Get pool_Pool__Set canon_Of_1) ▸ roundAt_sound (gcons pool_Pool__Get_ent (pool_Pool__Get_sound) <| gcons pool_Pool__Set_ent (pool_Pool__Set_sound) <| gcons canon_Of_1_ent (canon_Of_1_sound) <| gnil) mixed Tryz.func66 _ _ _ _
   h
def handles_Handles__Turn_c (k125 k126 k127 k128 k36 kr203 : Sm O) : Sm O := fun xs h =>
 bif Nat.beq xs.length 2 then
 (AV.asP (xs.getD 0 .u)).bind fun p0 =>
 (AV.asF (xs.getD 1 .u)).bind fun f1 =>
 let h2 := h.bump 2
 let h3 := h2.put h.next (.cells true 159 [(.p p0)])
 let h4 := h3.put (h.next + 1) (.cells true 109 [(.fn f1)])
 (h4.ld (.n (h.next + 1)) 0).bind fun w5 =>
 (AV.asF w5).bind fun f6 =>
 (bif (Option.isNone f6) then
 none
 else (h4.ld (.n h.next) 0).bind fun w7 =>
 (AV.asP w7).bind fun p8 =>
 (h4.ld (.n h.next) 0).bind fun w9 =>
 (AV.asP w9).bind fun p10 =>
 Option.bind p10 fun q11 =>
 (h4.ld q11.1 (q11.2 + 1)).bind fun w12 =>
 (AV.asI .i64 w12).bind fun n13 =>
 (h4.ld q11.1 ((q11.2 + 1) + 1)).bind fun w14 =>
 (AV.asI .i64 w14).bind fun n15 =>
 (h4.ld q11.1 (((q11.2 + 1) + 1) + 1)).bind fun w16 =>
 (AV.asI .i64 w16).bind fun n17 =>
 (k125 [(.p p8)] h4).bind fun r18 =>
 (AV.asAgg 5 r18.1).bind fun c19 =>
 (AV.asP (c19.getD 0 .u)).bind fun p20 =>
 I6 c19 1 fun n21 => I6 c19 2 fun n22 => I6 c19 3 fun n23 => I6 c19 4 fun n24 => (chkE (r18.2.ld (.n h.next) 0) (some (.p p10))).bind fun _ =>
 (chkE (r18.2.ld q11.1 (q11.2 + 1)) (some (.i .i64 n13))).bind fun _ =>
 (chkE (r18.2.ld q11.1 ((q11.2 + 1) + 1)) (some (.i .i64 n15))).bind fun _ =>
 (chkE (r18.2.ld q11.1 (((q11.2 + 1) + 1) + 1)) (some (.i .i64 n17))).bind fun _ =>
 (k126 [(.agg [(.p p20), J n21, J n22, J n23, J n24]), (.agg [J n13, J n15, J n17])] r18.2).bind fun r25 =>
 (AV.asF r25.1).bind fun f26 =>
 (rangeV [(125, k125), (126, k126), (127, k127), (128, k128), (36, k36), (2000203, kr203)] f26 66000 [(2, (.p (some ((.n h.next), 0)))), (3, (.p (some ((.n (h.next + 1)), 0))))] r25.2).bind fun r27 =>
 (lstN r27.2 r25.2.next).bind fun st28 =>
 let h29 := r27.2.kill r25.2.next
 (bif Nat.beq st28 0 then
 some ((.tup []), h29)
 else none))
 else none
def handles_Handles__Turn : Sm O := handles_Handles__Turn_c handles_Handles__table chain_Table__All pool_Pool__Get pool_Pool__Set canon_Of_1 (chain_Table__All_1 (handles_Handles__Turn_R0))
theorem handles_Handles__Turn_ent : Entered Tryz.prog 66 := Tryz.call66
theorem handles_Handles__Turn_run (k125 k126 k127 k128 k36 kr203 : Sm O) : run (O := O) Tryz.prog [(125, k125), (126, k126), (127, k127), (128, k128), (36, k36), (2000203, kr203)] Tryz.f66 (.n .z (.n (.n .z (.n .x .z)) (.n (.d [] [0, 2, 3, 4, 5, 1, 6] [0, 1, 0, 4, 12, 28, 63]) (.n (.rf 66000 [2, 3] []) .z)))) = handles_Handles__Turn_c k125 k126 k127 k128 k36 kr203 := by kernel_rfl
theorem handles_Handles__Turn_sound : FSound RO Tryz.prog 66 (handles_Handles__Turn) :=
   have h : FSound RO Tryz.prog 66 (handles_Handles__Turn_c handles_Handles__table chain_Table__All pool_Pool__Get pool_Pool__Set canon_Of_1 (chain_Table__All_1 (handles_Handles__Turn_R0))) := (handles_Handles__Turn_run handles_Handles__table chain_Table__All pool_Pool__Get pool_Pool__Set canon_Of_1 (chain_Table__All_1 (handles_Handles__Turn_R0))) ▸ run_soundR (gcons handles_Handles__table_ent (handles_Handles__table_sound) <| gcons chain_Table__All_ent (chain_Table__All_sound) <| gcons pool_Pool__Get_ent (pool_Pool__Get_sound) <| gcons pool_Pool__Set_ent (pool_Pool__Set_sound) <| gcons canon_Of_1_ent (canon_Of_1_sound) <| grf (c := 203) chain_Table__All_1_ent (chain_Table__All_1_sound (handles_Handles__Turn_R0_sound)) <| gnil) mixed Tryz.func66 (by kernel_rfl) _ (by kernel_rfl)
   h
def roots_Roots__Turn_c (k65 k66 : Sm O) : Sm O := fun xs h =>
 bif Nat.beq xs.length 2 then
 (AV.asP (xs.getD 0 .u)).bind fun p0 =>
 (AV.asF (xs.getD 1 .u)).bind fun f1 =>
 Option.bind p0 fun q2 =>
 (h.ld q2.1 q2.2).bind fun w3 =>
 (AV.asP w3).bind fun p4 =>
 (k65 [(.p p4), (.fn f1)] h).bind fun r5 =>
 (AV.asTup 0 r5.1).bind fun c6 =>
 Option.bind p0 fun q7 =>
 (r5.2.ld q7.1 (q7.2 + 1)).bind fun w8 =>
 (AV.asP w8).bind fun p9 =>
 (k66 [(.p p9), (.fn f1)] r5.2).bind fun r10 =>
 (AV.asTup 0 r10.1).bind fun c11 =>
 some ((.tup []), r10.2)
 else none
def roots_Roots__Turn : Sm O := roots_Roots__Turn_c frames_Frames__Turn handles_Handles__Turn
theorem roots_Roots__Turn_ent : Entered Tryz.prog 35 := Tryz.call35
theorem roots_Roots__Turn_run (k65 k66 : Sm O) : run (O := O) Tryz.prog [(65, k65), (66, k66)] Tryz.f35 .z = roots_Roots__Turn_c k65 k66 := by kernel_rfl
theorem roots_Roots__Turn_sound : FSound RO Tryz.prog 35 roots_Roots__Turn := sdf (roots_Roots__Turn_run _ _) (gcons frames_Frames__Turn_ent frames_Frames__Turn_sound <| gcons handles_Handles__Turn_ent handles_Handles__Turn_sound <| gnil) Tryz.func35 (by kernel_rfl)
def roots_Roots__TurnWeak_c (k66 : Sm O) : Sm O := fun xs h =>
 bif Nat.beq xs.length 2 then
 (AV.asP (xs.getD 0 .u)).bind fun p0 =>
 (AV.asF (xs.getD 1 .u)).bind fun f1 =>
 Option.bind p0 fun q2 =>
 (h.ld q2.1 (q2.2 + 2)).bind fun w3 =>
 (AV.asP w3).bind fun p4 =>
 (k66 [(.p p4), (.fn f1)] h).bind fun r5 =>
 (AV.asTup 0 r5.1).bind fun c6 =>
 some ((.tup []), r5.2)
 else none
def roots_Roots__TurnWeak : Sm O := roots_Roots__TurnWeak_c handles_Handles__Turn
theorem roots_Roots__TurnWeak_ent : Entered Tryz.prog 41 := Tryz.call41
theorem roots_Roots__TurnWeak_run (k66 : Sm O) : run (O := O) Tryz.prog [(66, k66)] Tryz.f41 .z = roots_Roots__TurnWeak_c k66 := by kernel_rfl
theorem roots_Roots__TurnWeak_sound : FSound RO Tryz.prog 41 roots_Roots__TurnWeak := sdf (roots_Roots__TurnWeak_run _) (gcons handles_Handles__Turn_ent handles_Handles__Turn_sound <| gnil) Tryz.func41 (by kernel_rfl)
def canon_Of_L3 (n80 : Int) : List AV × AH O → Option ((List AV × AH O) ⊕ (List AV × AH O)) := (fun r81 =>
 (AV.asI .i64 (r81.1.getD 0 .u)).bind fun n82 =>
 (bif (decide (n82 < n80)) then
 none
 else some (Sum.inr ([], r81.2))))
def canon_Of_L2 (n57 : Int) (k31 : Sm O) (p0 : Option (Bid × Nat)) (k39 : Sm O) (n28 : Int) (h42 : AH O) (h4 : AH O) (k37 : Sm O) : List AV × AH O → Option ((List AV × AH O) ⊕ (List AV × AH O)) := (fun r58 =>
 (AV.asI .i64 (r58.1.getD 0 .u)).bind fun n59 =>
 (bif (decide (n59 < n57)) then
 (k31 [(.p p0)] r58.2).bind fun r60 =>
 (AV.asP r60.1).bind fun p61 =>
 (k39 [(.p p61), (.i .u64 n28), J n59] r60.2).bind fun r62 =>
 (AV.asTup 2 r62.1).bind fun c63 =>
 (AV.asI .u64 (c63.getD 0 .u)).bind fun n64 =>
 I6 c63 1 fun n65 => let h66 := r62.2.bump 2
 (h66.ld (.n h42.next) 5).bind fun w67 =>
 (AV.asSl w67).bind fun l68 =>
 (h66.ld (.n ((h4.next + 1) + 1)) 0).bind fun w69 =>
 (AV.asP w69).bind fun p70 =>
 (k37 [(.p p70), (.i .u64 n64)] h66).bind fun r71 =>
 (AV.asI .i64 r71.1).bind fun n72 =>
 (chkE (r71.2.ld (.n h42.next) 5) (some (.sl l68.1 l68.2))).bind fun _ =>
 let h73 := r71.2.put r62.2.next (.cells true 3 [J n72])
 (h73.rdSl (.loc (.n r62.2.next) 0 1) 1 1).bind fun new74 =>
 (bif (Nat.ble ((l68.2 + 1) * 9) 35184372088832) then
 (h73.appSl (r62.2.next + 1) 3 1 l68.1 l68.2 1 new74).bind fun r75 =>
 (AV.asSl r75.1).bind fun l76 =>
 (r75.2.st (.n h42.next) 5 [L l76]).bind fun h77 =>
 some (Sum.inl ([(.i .i64 (IntKind.i64.wrap (n59 + 1)))], h77))
 else none)
 else some (Sum.inr ([], r58.2))))
def canon_Of_L1 (h4 : AH O) (k31 : Sm O) (p0 : Option (Bid × Nat)) (k38 : Sm O) (k39 : Sm O) (k37 : Sm O) (h2 : AH O) : List AV × AH O → Option ((List AV × AH O) ⊕ (List AV × AH O)) := (fun r14 =>
 (AV.asI .i64 (r14.1.getD 0 .u)).bind fun n15 =>
 (r14.2.ld (.n ((h4.next + 1) + 1)) 0).bind fun w16 =>
 (AV.asP w16).bind fun p17 =>
 Option.bind p17 fun q18 =>
 (r14.2.ld q18.1 (q18.2 + 1)).bind fun w19 =>
 (AV.asSl w19).bind fun l20 =>
 (bif (decide (n15 < (l20.2 : Int))) then
 (r14.2.ld (.n ((h4.next + 1) + 1)) 0).bind fun w21 =>
 (AV.asP w21).bind fun p22 =>
 Option.bind p22 fun q23 =>
 (r14.2.ld q23.1 (q23.2 + 1)).bind fun w24 =>
 (AV.asSl w24).bind fun l25 =>
 (bif ((decide ((0 : Int) ≤ n15)) && (decide (n15 < (l25.2 : Int)))) then
 (SA.ref l25.1).bind fun q26 =>
 (r14.2.ld q26.1 (q26.2 + (n15.toNat * 1))).bind fun w27 =>
 (AV.asI .u64 w27).bind fun n28 =>
 let h29 := r14.2.bump 1
 (k31 [(.p p0)] h29).bind fun r30 =>
 (AV.asP r30.1).bind fun p31 =>
 (k38 [(.p p31), (.i .u64 n28)] r30.2).bind fun r32 =>
 (AV.asTup 2 r32.1).bind fun c33 =>
 (AV.asAgg 5 (c33.getD 0 .u)).bind fun c34 =>
 I6 c34 0 fun n35 => I6 c34 1 fun n36 => I6 c34 2 fun n37 => I6 c34 3 fun n38 => (AV.asB (c34.getD 4 .u)).bind fun b39 =>
 I6 c33 1 fun n40 => let h41 := r32.2.put r14.2.next (.cells true 72 [J 0, J 0, J 0, J 0, (.b false)])
 (h41.st (.n r14.2.next) 0 [J n35, J n36, J n37, J n38, (.b b39)]).bind fun h42 =>
 let h43 := h42.bump 1
 (h43.ld (.n r14.2.next) 0).bind fun w44 =>
 (AV.asI .i64 w44).bind fun n45 =>
 (h43.ld (.n r14.2.next) 1).bind fun w46 =>
 (AV.asI .i64 w46).bind fun n47 =>
 (h43.ld (.n r14.2.next) 2).bind fun w48 =>
 (AV.asI .i64 w48).bind fun n49 =>
 (h43.ld (.n r14.2.next) 3).bind fun w50 =>
 (AV.asI .i64 w50).bind fun n51 =>
 (h43.ld (.n r14.2.next) 4).bind fun w52 =>
 (AV.asB w52).bind fun b53 =>
 let h54 := h43.put h42.next (.cells true 77 [J 0, J 0, J 0, J 0, (.b false), N, N])
 (h54.st (.n h42.next) 0 [J n45, J n47, J n49, J n51, (.b b53), N, N]).bind fun h55 =>
 (h55.ld (.n r14.2.next) 0).bind fun w56 =>
 (AV.asI .i64 w56).bind fun n57 =>
 (loopF (S := List AV × AH O) (T := List AV × AH O) (canon_Of_L2 n57 k31 p0 k39 n28 h42 h4 k37) ([J 0], h55)).bind fun r78 =>
 (r78.2.ld (.n r14.2.next) 1).bind fun w79 =>
 (AV.asI .i64 w79).bind fun n80 =>
 (loopF (S := List AV × AH O) (T := List AV × AH O) (canon_Of_L3 n80) ([J 0], r78.2)).bind fun r83 =>
 let h84 := r83.2.bump 2
 (h84.ld (.n h2.next) 0).bind fun w85 =>
 (AV.asSl w85).bind fun l86 =>
 (h84.ld (.n h42.next) 0).bind fun w87 =>
 (AV.asI .i64 w87).bind fun n88 =>
 (h84.ld (.n h42.next) 1).bind fun w89 =>
 (AV.asI .i64 w89).bind fun n90 =>
 (h84.ld (.n h42.next) 2).bind fun w91 =>
 (AV.asI .i64 w91).bind fun n92 =>
 (h84.ld (.n h42.next) 3).bind fun w93 =>
 (AV.asI .i64 w93).bind fun n94 =>
 (h84.ld (.n h42.next) 4).bind fun w95 =>
 (AV.asB w95).bind fun b96 =>
 (h84.ld (.n h42.next) 5).bind fun w97 =>
 (AV.asSl w97).bind fun l98 =>
 (h84.ld (.n h42.next) 6).bind fun w99 =>
 (AV.asSl w99).bind fun l100 =>
 let h101 := h84.put r83.2.next (.cells true 77 [J n88, J n90, J n92, J n94, (.b b96), L l98, L l100])
 (h101.rdSl (.loc (.n r83.2.next) 0 7) 1 7).bind fun new102 =>
 (bif (Nat.ble ((l86.2 + 1) * 89) 35184372088832) then
 (h101.appSl (r83.2.next + 1) 77 7 l86.1 l86.2 1 new102).bind fun r103 =>
 (AV.asSl r103.1).bind fun l104 =>
 (r103.2.st (.n h2.next) 0 [L l104]).bind fun h105 =>
 some (Sum.inl ([(.i .i64 (IntKind.i64.wrap (n15 + 1)))], h105))
 else none)
 else none)
 else some (Sum.inr ([], r14.2))))
def canon_Of_c (k32 k36 k35 k31 k38 k39 k37 k41 : Sm O) : Sm O := fun xs h =>
 bif Nat.beq xs.length 1 then
 (AV.asP (xs.getD 0 .u)).bind fun p0 =>
 let h1 := h.bump 1
 let h2 := h1.put h.next (.cells true 25 [N, N, N])
 let h3 := h2.bump 1
 let h4 := h3.put h2.next (.cells true 25 [N, N, N])
 let h5 := h4.bump 3
 let h6 := h5.put h4.next (.map [] [] 0)
 let h7 := h6.put (h4.next + 1) (.cells true 105 [(.mp (some h4.next)), N])
 let h8 := h7.put ((h4.next + 1) + 1) (.cells true 101 [(.p none)])
 (h8.st (.n ((h4.next + 1) + 1)) 0 [(.p (some ((.n (h4.next + 1)), 0)))]).bind fun h9 =>
 (k32 [(.p p0)] h9).bind fun r10 =>
 (AV.asP r10.1).bind fun p11 =>
 (k35 [(.p p11), (.fn (some (.func 36, [], [(.p (some ((.n h2.next), 0))), (.p (some ((.n ((h4.next + 1) + 1)), 0)))])))] r10.2).bind fun r12 =>
 (AV.asTup 0 r12.1).bind fun c13 =>
 (loopF (S := List AV × AH O) (T := List AV × AH O) (canon_Of_L1 h4 k31 p0 k38 k39 k37 h2) ([J 0], r12.2)).bind fun r106 =>
 (k32 [(.p p0)] r106.2).bind fun r107 =>
 (AV.asP r107.1).bind fun p108 =>
 (k41 [(.p p108), (.fn (some (.func 42, [], [(.p (some ((.n h2.next), 0))), (.p (some ((.n ((h4.next + 1) + 1)), 0)))])))] r107.2).bind fun r109 =>
 (AV.asTup 0 r109.1).bind fun c110 =>
 (r109.2.ld (.n h2.next) 0).bind fun w111 =>
 (AV.asSl w111).bind fun l112 =>
 (r109.2.ld (.n h2.next) 1).bind fun w113 =>
 (AV.asSl w113).bind fun l114 =>
 (r109.2.ld (.n h2.next) 2).bind fun w115 =>
 (AV.asSl w115).bind fun l116 =>
 (r109.2.st (.n h.next) 0 [L l112, L l114, L l116]).bind fun h117 =>
 (h117.ld (.n h.next) 0).bind fun w118 =>
 (AV.asSl w118).bind fun l119 =>
 (h117.ld (.n h.next) 1).bind fun w120 =>
 (AV.asSl w120).bind fun l121 =>
 (h117.ld (.n h.next) 2).bind fun w122 =>
 (AV.asSl w122).bind fun l123 =>
 some ((.agg [L l119, L l121, L l123]), h117)
 else none
def canon_Of : Sm O := canon_Of_c heap_Heap__Roots canon_Of_1 roots_Roots__Turn heap_Heap__Space store_Store__Header store_Store__Pointer canon_numbers__number roots_Roots__TurnWeak
theorem canon_Of_ent : Entered Tryz.prog 16 := Tryz.call16
theorem canon_Of_run (k32 k36 k35 k31 k38 k39 k37 k41 : Sm O) : run (O := O) Tryz.prog [(32, k32), (36, k36), (35, k35), (31, k31), (38, k38), (39, k39), (37, k37), (41, k41)] Tryz.f16 (.n .z (.n .z (.n .z (.n .z (.n (.n .z (.n (.lp false 0 [(5, .one (.i .i64))] [] (.n (.n .z .z) (.n (.n (.n .z (.n .z (.n .z (.n (.n .z (.n (.lp false 2 [(51, .one (.i .i64))] [] (.n .z (.n .z (.n (.n (.n .z (.n .z (.d [] [0, 1, 2, 3, 4, 5, 6, 7, 8] [0, 1, 0, 0, 12, 28, 63, 127, 255]))) .z) .z)))) .z)) (.n (.n .z (.n (.lp false 4 [(74, .one (.i .i64))] [] (.n .z (.n (.n .x .z) (.n (.n (.n .z .z) .z) .z)))) .z)) .z))))) .z) .z))) .z)) (.n .z .z)))))) = canon_Of_c k32 k36 k35 k31 k38 k39 k37 k41 := by kernel_rfl
theorem canon_Of_sound : FSound RO Tryz.prog 16 canon_Of := sdf (canon_Of_run _ _ _ _ _ _ _ _) (gcons heap_Heap__Roots_ent heap_Heap__Roots_sound <| gcons canon_Of_1_ent canon_Of_1_sound <| gcons roots_Roots__Turn_ent roots_Roots__Turn_sound <| gcons heap_Heap__Space_ent heap_Heap__Space_sound <| gcons store_Store__Header_ent store_Store__Header_sound <| gcons store_Store__Pointer_ent store_Store__Pointer_sound <| gcons canon_numbers__number_ent canon_numbers__number_sound <| gcons roots_Roots__TurnWeak_ent roots_Roots__TurnWeak_sound <| gnil) Tryz.func16 (by kernel_rfl)
def law40_awake_p (w : Words O) (k15 k16 k10 k7 k9 : Sm O) : Sm O := fun xs h =>
 bif Nat.beq xs.length 0 then
 let h0 := h.bump 2
 let h1 := h0.put h.next (.cells true 66 (P9 1 0 0 0 0 0 0 1 0 0 11 0 0 0 0))
 (k15 [(.agg [J 40, J 20, J 8, J 1, J 0]), (.sl (.loc (.n h.next) 0 5) 3)] h1).bind fun r2 =>
 (AV.asTup 3 r2.1).bind fun c3 =>
 (AV.asP (c3.getD 0 .u)).bind fun p4 =>
 (AV.asAgg 264 (c3.getD 1 .u)).bind fun c5 =>
 w.U2 c5 fun n6 n7 n8 n9 n10 l11 l12 n13 l14 l15 n16 l17 n18 l19 l20 n21 l22 n23 n24 n25 n26 n27 n28 n29 n30 n31 n32 n33 n34 n35 n36 n37 n38 l39 n40 n41 n42 n43 n44 n45 n46 n47 n48 n49 n50 n51 n52 n53 n54 n55 n56 n57 n58 n59 n60 n61 n62 n63 n64 n65 n66 n67 n68 n69 n70 n71 n72 n73 n74 n75 n76 n77 n78 n79 n80 n81 n82 n83 n84 n85 n86 n87 n88 n89 n90 n91 n92 n93 n94 n95 n96 n97 n98 n99 n100 n101 n102 n103 n104 n105 n106 n107 n108 n109 n110 n111 n112 n113 n114 n115 n116 n117 n118 n119 n120 n121 n122 n123 n124 n125 n126 n127 n128 n129 n130 n131 n132 n133 n134 n135 n136 n137 n138 n139 n140 n141 n142 n143 n144 n145 n146 n147 n148 n149 n150 n151 n152 n153 n154 n155 n156 n157 n158 n159 n160 n161 n162 n163 n164 n165 n166 n167 n168 n169 n170 n171 n172 n173 n174 n175 n176 n177 n178 n179 n180 n181 n182 n183 n184 n185 n186 n187 n188 n189 n190 n191 n192 n193 n194 n195 n196 n197 n198 n199 n200 n201 n202 n203 n204 n205 n206 n207 n208 n209 n210 n211 n212 n213 n214 n215 n216 n217 n218 n219 n220 n221 n222 n223 n224 n225 n226 n227 n228 n229 n230 n231 n232 n233 n234 n235 n236 n237 n238 n239 n240 n241 n242 n243 n244 n245 n246 n247 n248 n249 n250 n251 n252 n253 n254 n255 n256 n257 n258 n259 n260 n261 n262 n263 l264 n265 n266 n267 n268 n269 =>
 (AV.asB (c3.getD 2 .u)).bind fun b270 =>
 let h271 := r2.2.put (h.next + 1) (.cells true 62 P7)
 (h271.st (.n (h.next + 1)) 0 (P8 n6 n7 n8 n9 n10 l11 l12 n13 l14 l15 n16 l17 n18 l19 l20 n21 l22 n23 n24 n25 n26 n27 n28 n29 n30 n31 n32 n33 n34 n35 n36 n37 n38 l39 n40 n41 n42 n43 n44 n45 n46 n47 n48 n49 n50 n51 n52 n53 n54 n55 n56 n57 n58 n59 n60 n61 n62 n63 n64 n65 n66 n67 n68 n69 n70 n71 n72 n73 n74 n75 n76 n77 n78 n79 n80 n81 n82 n83 n84 n85 n86 n87 n88 n89 n90 n91 n92 n93 n94 n95 n96 n97 n98 n99 n100 n101 n102 n103 n104 n105 n106 n107 n108 n109 n110 n111 n112 n113 n114 n115 n116 n117 n118 n119 n120 n121 n122 n123 n124 n125 n126 n127 n128 n129 n130 n131 n132 n133 n134 n135 n136 n137 n138 n139 n140 n141 n142 n143 n144 n145 n146 n147 n148 n149 n150 n151 n152 n153 n154 n155 n156 n157 n158 n159 n160 n161 n162 n163 n164 n165 n166 n167 n168 n169 n170 n171 n172 n173 n174 n175 n176 n177 n178 n179 n180 n181 n182 n183 n184 n185 n186 n187 n188 n189 n190 n191 n192 n193 n194 n195 n196 n197 n198 n199 n200 n201 n202 n203 n204 n205 n206 n207 n208 n209 n210 n211 n212 n213 n214 n215 n216 n217 n218 n219 n220 n221 n222 n223 n224 n225 n226 n227 n228 n229 n230 n231 n232 n233 n234 n235 n236 n237 n238 n239 n240 n241 n242 n243 n244 n245 n246 n247 n248 n249 n250 n251 n252 n253 n254 n255 n256 n257 n258 n259 n260 n261 n262 n263 l264 n265 n266 n267 n268 n269)).bind fun h272 =>
 (bif (!b270) then
 none
 else let h273 := h272.bump 1
 (k16 [(.p p4)] h273).bind fun r274 =>
 (AV.asAgg 3 r274.1).bind fun c275 =>
 Is c275 0 fun l276 => Is c275 1 fun l277 => Is c275 2 fun l278 => let h279 := r274.2.put h272.next (.cells true 25 [N, N, N])
 (h279.st (.n h272.next) 0 [L l276, L l277, L l278]).bind fun h280 =>
 let h281 := h280.bump 3
 (h281.ld (.n h272.next) 0).bind fun w282 =>
 (AV.asSl w282).bind fun l283 =>
 (h281.ld (.n h272.next) 1).bind fun w284 =>
 (AV.asSl w284).bind fun l285 =>
 (h281.ld (.n h272.next) 2).bind fun w286 =>
 (AV.asSl w286).bind fun l287 =>
 let h288 := h281.put h280.next (.cells true 3 [J 1])
 let h289 := h288.put (h280.next + 1) (.cells true 75 [J 1, J 0, J 0, J 0, (.b false), (.sl (.loc (.n h280.next) 0 1) 1), N])
 let h290 := h289.put ((h280.next + 1) + 1) (.cells true 3 [J 1])
 (k10 [(.agg [L l283, L l285, L l287]), (.agg [(.sl (.loc (.n (h280.next + 1)) 0 7) 1), (.sl (.loc (.n ((h280.next + 1) + 1)) 0 1) 1), N])] h290).bind fun r291 =>
 (AV.asB r291.1).bind fun b292 =>
 ((bif (b292 == true) then
 (r291.2.ld (.n h272.next) 0).bind fun w293 =>
 (AV.asSl w293).bind fun l294 =>
 (r291.2.ld (.n h272.next) 1).bind fun w295 =>
 (AV.asSl w295).bind fun l296 =>
 (r291.2.ld (.n h272.next) 2).bind fun w297 =>
 (AV.asSl w297).bind fun l298 =>
 (k7 [(.agg [L l294, L l296, L l298])] r291.2).bind fun r299 =>
 (AV.asB r299.1).bind fun b300 =>
 some ([(.b b300)], r299.2)
 else some ([(.b false)], r291.2)) : Option (List AV × AH O)).bind fun r301 =>
 (AV.asB (r301.1.getD 0 .u)).bind fun b302 =>
 ((bif (b302 == true) then
 (r301.2.ld (.n h272.next) 0).bind fun w303 =>
 (AV.asSl w303).bind fun l304 =>
 (r301.2.ld (.n h272.next) 1).bind fun w305 =>
 (AV.asSl w305).bind fun l306 =>
 (r301.2.ld (.n h272.next) 2).bind fun w307 =>
 (AV.asSl w307).bind fun l308 =>
 (r301.2.ld (.n h272.next) 0).bind fun w309 =>
 (AV.asSl w309).bind fun l310 =>
 (r301.2.ld (.n h272.next) 1).bind fun w311 =>
 (AV.asSl w311).bind fun l312 =>
 (r301.2.ld (.n h272.next) 2).bind fun w313 =>
 (AV.asSl w313).bind fun l314 =>
 (k9 [(.agg [L l304, L l306, L l308]), (.agg [L l310, L l312, L l314])] r301.2).bind fun r315 =>
 (AV.asB r315.1).bind fun b316 =>
 some ([(.b b316)], r315.2)
 else some ([(.b false)], r301.2)) : Option (List AV × AH O)).bind fun r317 =>
 (AV.asB (r317.1.getD 0 .u)).bind fun b318 =>
 some ((.b b318), r317.2))
 else none
def law40_awake_c (k15 k16 k10 k7 k9 : Sm O) : Sm O := law40_awake_p fastWords k15 k16 k10 k7 k9
def law40_awake : Sm O := law40_awake_c law40_Made canon_Of law40_Is canon_Right canon_Same
theorem law40_awake_ent : Entered Tryz.prog 4 := Tryz.call4
theorem law40_awake_run (k15 k16 k10 k7 k9 : Sm O) : run (O := O) Tryz.prog [(15, k15), (16, k16), (10, k10), (7, k7), (9, k9)] Tryz.f4 (.n .z (.n .z (.n (.n .z (.n .x .z)) (.n .z (.n (.g [(9, 2, [(31, .one .b)]), (13, 3, [(36, .one .b)])]) .z))))) = law40_awake_c k15 k16 k10 k7 k9 :=
 (show run (O := O) Tryz.prog [(15, k15), (16, k16), (10, k10), (7, k7), (9, k9)] Tryz.f4 (.n .z (.n .z (.n (.n .z (.n .x .z)) (.n .z (.n (.g [(9, 2, [(31, .one .b)]), (13, 3, [(36, .one .b)])]) .z))))) = law40_awake_p slowWords k15 k16 k10 k7 k9 by kernel_rfl).trans (congrArg (fun w => law40_awake_p w k15 k16 k10 k7 k9) words_eq)
theorem law40_awake_sound : FSound RO Tryz.prog 4 law40_awake := sdf (law40_awake_run _ _ _ _ _) (gcons law40_Made_ent law40_Made_sound <| gcons canon_Of_ent canon_Of_sound <| gcons law40_Is_ent law40_Is_sound <| gcons canon_Right_ent canon_Right_sound <| gcons canon_Same_ent canon_Same_sound <| gnil) Tryz.func4 (by kernel_rfl)
def law40_CanonRights_c (k4 k5 k6 k7 k8 k9 k10 k11 k12 k13 k14 : Sm O) : Sm O := fun xs h =>
 bif Nat.beq xs.length 3 then
 (AV.asAgg 3 (xs.getD 0 .u)).bind fun c0 =>
 Is c0 0 fun l1 => Is c0 1 fun l2 => Is c0 2 fun l3 => (AV.asAgg 3 (xs.getD 1 .u)).bind fun c4 =>
 Is c4 0 fun l5 => Is c4 1 fun l6 => Is c4 2 fun l7 => (AV.asI .i64 (xs.getD 2 .u)).bind fun n8 =>
 let h9 := h.bump 2
 let h10 := h9.put h.next (.cells true 25 [L l1, L l2, L l3])
 let h11 := h10.put (h.next + 1) (.cells true 25 [L l5, L l6, L l7])
 (k4 [] h11).bind fun r12 =>
 (AV.asB r12.1).bind fun b13 =>
 (bif (!b13) then
 some ((.b false), r12.2)
 else (r12.2.ld (.n h.next) 0).bind fun w14 =>
 (AV.asSl w14).bind fun l15 =>
 (r12.2.ld (.n h.next) 1).bind fun w16 =>
 (AV.asSl w16).bind fun l17 =>
 (r12.2.ld (.n h.next) 2).bind fun w18 =>
 (AV.asSl w18).bind fun l19 =>
 (k5 [(.agg [L l15, L l17, L l19])] r12.2).bind fun r20 =>
 (AV.asB r20.1).bind fun b21 =>
 ((bif ((!b21) == false) then
 (r20.2.ld (.n (h.next + 1)) 0).bind fun w22 =>
 (AV.asSl w22).bind fun l23 =>
 (r20.2.ld (.n (h.next + 1)) 1).bind fun w24 =>
 (AV.asSl w24).bind fun l25 =>
 (r20.2.ld (.n (h.next + 1)) 2).bind fun w26 =>
 (AV.asSl w26).bind fun l27 =>
 (k5 [(.agg [L l23, L l25, L l27])] r20.2).bind fun r28 =>
 (AV.asB r28.1).bind fun b29 =>
 some ([(.b (!b29))], r28.2)
 else some ([(.b true)], r20.2)) : Option (List AV × AH O)).bind fun r30 =>
 (AV.asB (r30.1.getD 0 .u)).bind fun b31 =>
 (bif b31 then
 some ((.b true), r30.2)
 else let h32 := r30.2.bump 1
 (h32.ld (.n h.next) 0).bind fun w33 =>
 (AV.asSl w33).bind fun l34 =>
 (h32.ld (.n h.next) 1).bind fun w35 =>
 (AV.asSl w35).bind fun l36 =>
 (h32.ld (.n h.next) 2).bind fun w37 =>
 (AV.asSl w37).bind fun l38 =>
 (k6 [(.agg [L l34, L l36, L l38])] h32).bind fun r39 =>
 (AV.asAgg 3 r39.1).bind fun c40 =>
 Is c40 0 fun l41 => Is c40 1 fun l42 => Is c40 2 fun l43 => let h44 := r39.2.put r30.2.next (.cells true 30 [N, N, N])
 (h44.st (.n r30.2.next) 0 [L l41, L l42, L l43]).bind fun h45 =>
 (h45.ld (.n h.next) 0).bind fun w46 =>
 (AV.asSl w46).bind fun l47 =>
 (h45.ld (.n h.next) 1).bind fun w48 =>
 (AV.asSl w48).bind fun l49 =>
 (h45.ld (.n h.next) 2).bind fun w50 =>
 (AV.asSl w50).bind fun l51 =>
 (h45.ld (.n r30.2.next) 0).bind fun w52 =>
 (AV.asSl w52).bind fun l53 =>
 (h45.ld (.n r30.2.next) 1).bind fun w54 =>
 (AV.asSl w54).bind fun l55 =>
 (h45.ld (.n r30.2.next) 2).bind fun w56 =>
 (AV.asSl w56).bind fun l57 =>
 (k7 [(.agg [L l47, L l49, L l51])] h45).bind fun r58 =>
 (AV.asB r58.1).bind fun b59 =>
 (chkE (r58.2.ld (.n r30.2.next) 0) (some (.sl l53.1 l53.2))).bind fun _ =>
 (chkE (r58.2.ld (.n r30.2.next) 1) (some (.sl l55.1 l55.2))).bind fun _ =>
 (chkE (r58.2.ld (.n r30.2.next) 2) (some (.sl l57.1 l57.2))).bind fun _ =>
 (k8 [(.agg [L l53, L l55, L l57])] r58.2).bind fun r60 =>
 (AV.asB r60.1).bind fun b61 =>
 ((bif ((b59 == b61) == true) then
 (r60.2.ld (.n h.next) 0).bind fun w62 =>
 (AV.asSl w62).bind fun l63 =>
 (r60.2.ld (.n h.next) 1).bind fun w64 =>
 (AV.asSl w64).bind fun l65 =>
 (r60.2.ld (.n h.next) 2).bind fun w66 =>
 (AV.asSl w66).bind fun l67 =>
 (r60.2.ld (.n (h.next + 1)) 0).bind fun w68 =>
 (AV.asSl w68).bind fun l69 =>
 (r60.2.ld (.n (h.next + 1)) 1).bind fun w70 =>
 (AV.asSl w70).bind fun l71 =>
 (r60.2.ld (.n (h.next + 1)) 2).bind fun w72 =>
 (AV.asSl w72).bind fun l73 =>
 (r60.2.ld (.n h.next) 0).bind fun w74 =>
 (AV.asSl w74).bind fun l75 =>
 (r60.2.ld (.n h.next) 1).bind fun w76 =>
 (AV.asSl w76).bind fun l77 =>
 (r60.2.ld (.n h.next) 2).bind fun w78 =>
 (AV.asSl w78).bind fun l79 =>
 (r60.2.ld (.n (h.next + 1)) 0).bind fun w80 =>
 (AV.asSl w80).bind fun l81 =>
 (r60.2.ld (.n (h.next + 1)) 1).bind fun w82 =>
 (AV.asSl w82).bind fun l83 =>
 (r60.2.ld (.n (h.next + 1)) 2).bind fun w84 =>
 (AV.asSl w84).bind fun l85 =>
 (k9 [(.agg [L l63, L l65, L l67]), (.agg [L l69, L l71, L l73])] r60.2).bind fun r86 =>
 (AV.asB r86.1).bind fun b87 =>
 (chkE (r86.2.ld (.n h.next) 0) (some (.sl l75.1 l75.2))).bind fun _ =>
 (chkE (r86.2.ld (.n h.next) 1) (some (.sl l77.1 l77.2))).bind fun _ =>
 (chkE (r86.2.ld (.n h.next) 2) (some (.sl l79.1 l79.2))).bind fun _ =>
 (chkE (r86.2.ld (.n (h.next + 1)) 0) (some (.sl l81.1 l81.2))).bind fun _ =>
 (chkE (r86.2.ld (.n (h.next + 1)) 1) (some (.sl l83.1 l83.2))).bind fun _ =>
 (chkE (r86.2.ld (.n (h.next + 1)) 2) (some (.sl l85.1 l85.2))).bind fun _ =>
 (k6 [(.agg [L l81, L l83, L l85])] r86.2).bind fun r88 =>
 (AV.asAgg 3 r88.1).bind fun c89 =>
 Is c89 0 fun l90 => Is c89 1 fun l91 => Is c89 2 fun l92 => (chkE (r88.2.ld (.n h.next) 0) (some (.sl l75.1 l75.2))).bind fun _ =>
 (chkE (r88.2.ld (.n h.next) 1) (some (.sl l77.1 l77.2))).bind fun _ =>
 (chkE (r88.2.ld (.n h.next) 2) (some (.sl l79.1 l79.2))).bind fun _ =>
 (k10 [(.agg [L l75, L l77, L l79]), (.agg [L l90, L l91, L l92])] r88.2).bind fun r93 =>
 (AV.asB r93.1).bind fun b94 =>
 some ([(.b (b87 == b94))], r93.2)
 else some ([(.b false)], r60.2)) : Option (List AV × AH O)).bind fun r95 =>
 (AV.asB (r95.1.getD 0 .u)).bind fun b96 =>
 ((bif (b96 == true) then
 (r95.2.ld (.n h.next) 0).bind fun w97 =>
 (AV.asSl w97).bind fun l98 =>
 (r95.2.ld (.n h.next) 1).bind fun w99 =>
 (AV.asSl w99).bind fun l100 =>
 (r95.2.ld (.n h.next) 2).bind fun w101 =>
 (AV.asSl w101).bind fun l102 =>
 (r95.2.ld (.n r30.2.next) 0).bind fun w103 =>
 (AV.asSl w103).bind fun l104 =>
 (r95.2.ld (.n r30.2.next) 1).bind fun w105 =>
 (AV.asSl w105).bind fun l106 =>
 (r95.2.ld (.n r30.2.next) 2).bind fun w107 =>
 (AV.asSl w107).bind fun l108 =>
 (k11 [(.agg [L l98, L l100, L l102])] r95.2).bind fun r109 =>
 (AV.asAgg 3 r109.1).bind fun c110 =>
 Is c110 0 fun l111 => Is c110 1 fun l112 => Is c110 2 fun l113 => (chkE (r109.2.ld (.n r30.2.next) 0) (some (.sl l104.1 l104.2))).bind fun _ =>
 (chkE (r109.2.ld (.n r30.2.next) 1) (some (.sl l106.1 l106.2))).bind fun _ =>
 (chkE (r109.2.ld (.n r30.2.next) 2) (some (.sl l108.1 l108.2))).bind fun _ =>
 (k12 [(.agg [L l104, L l106, L l108])] r109.2).bind fun r114 =>
 (AV.asAgg 3 r114.1).bind fun c115 =>
 Is c115 0 fun l116 => Is c115 1 fun l117 => Is c115 2 fun l118 => (k10 [(.agg [L l111, L l112, L l113]), (.agg [L l116, L l117, L l118])] r114.2).bind fun r119 =>
 (AV.asB r119.1).bind fun b120 =>
 some ([(.b b120)], r119.2)
 else some ([(.b false)], r95.2)) : Option (List AV × AH O)).bind fun r121 =>
 (AV.asB (r121.1.getD 0 .u)).bind fun b122 =>
 ((bif (b122 == true) then
 (r121.2.ld (.n h.next) 0).bind fun w123 =>
 (AV.asSl w123).bind fun l124 =>
 (r121.2.ld (.n h.next) 1).bind fun w125 =>
 (AV.asSl w125).bind fun l126 =>
 (r121.2.ld (.n h.next) 2).bind fun w127 =>
 (AV.asSl w127).bind fun l128 =>
 (r121.2.ld (.n r30.2.next) 0).bind fun w129 =>
 (AV.asSl w129).bind fun l130 =>
 (r121.2.ld (.n r30.2.next) 1).bind fun w131 =>
 (AV.asSl w131).bind fun l132 =>
 (r121.2.ld (.n r30.2.next) 2).bind fun w133 =>
 (AV.asSl w133).bind fun l134 =>
 (k13 [(.agg [L l124, L l126, L l128]), J n8] r121.2).bind fun r135 =>
 (AV.asI .i64 r135.1).bind fun n136 =>
 (chkE (r135.2.ld (.n r30.2.next) 0) (some (.sl l130.1 l130.2))).bind fun _ =>
 (chkE (r135.2.ld (.n r30.2.next) 1) (some (.sl l132.1 l132.2))).bind fun _ =>
 (chkE (r135.2.ld (.n r30.2.next) 2) (some (.sl l134.1 l134.2))).bind fun _ =>
 (k14 [(.agg [L l130, L l132, L l134]), J n8] r135.2).bind fun r137 =>
 (AV.asI .i64 r137.1).bind fun n138 =>
 some ([(.b ((n136 : Int) == n138))], r137.2)
 else some ([(.b false)], r121.2)) : Option (List AV × AH O)).bind fun r139 =>
 (AV.asB (r139.1.getD 0 .u)).bind fun b140 =>
 ((bif (b140 == true) then
 (r139.2.ld (.n h.next) 0).bind fun w141 =>
 (AV.asSl w141).bind fun l142 =>
 (r139.2.ld (.n h.next) 1).bind fun w143 =>
 (AV.asSl w143).bind fun l144 =>
 (r139.2.ld (.n h.next) 2).bind fun w145 =>
 (AV.asSl w145).bind fun l146 =>
 (r139.2.ld (.n h.next) 0).bind fun w147 =>
 (AV.asSl w147).bind fun l148 =>
 (r139.2.ld (.n h.next) 1).bind fun w149 =>
 (AV.asSl w149).bind fun l150 =>
 (r139.2.ld (.n h.next) 2).bind fun w151 =>
 (AV.asSl w151).bind fun l152 =>
 (k9 [(.agg [L l142, L l144, L l146]), (.agg [L l148, L l150, L l152])] r139.2).bind fun r153 =>
 (AV.asB r153.1).bind fun b154 =>
 some ([(.b b154)], r153.2)
 else some ([(.b false)], r139.2)) : Option (List AV × AH O)).bind fun r155 =>
 (AV.asB (r155.1.getD 0 .u)).bind fun b156 =>
 some ((.b b156), r155.2)))
 else none
def law40_CanonRights : Sm O := law40_CanonRights_c law40_awake law40_few law40_Ref canon_Right haymowref40_Right canon_Same law40_Is canon_Young haymowref40_Young canon_Words haymowref40_Words
theorem law40_CanonRights_run (k4 k5 k6 k7 k8 k9 k10 k11 k12 k13 k14 : Sm O) : run (O := O) Tryz.prog [(4, k4), (5, k5), (6, k6), (7, k7), (8, k8), (9, k9), (10, k10), (11, k11), (12, k12), (13, k13), (14, k14)] Tryz.f3 (.n .z (.n (.n .z (.n .z .z)) (.n (.n (.g [(3, 3, [(17, .one .b)])]) (.n .z .z)) (.n .z (.n (.d [(5, 8, [(34, .one .b)]), (15, 5, [(41, .one .b)]), (22, 7, [(50, .one .b)]), (31, 3, [(55, .one .b)])] [0, 2, 1, 3, 4, 5, 6, 7, 9, 10, 8, 11, 12, 13, 14, 15, 16, 18, 17, 19, 20, 21, 22, 23, 24, 26, 27, 25, 28, 29, 30, 31, 32, 33, 34, 35, 36] [0, 1, 0, 7, 15, 31, 63, 63, 255, 63, 63, 1535, 4095, 8191, 16383, 32767, 65535, 131071, 65535, 524287, 1048575, 2097151, 4194303, 8388607, 8388607, 33554431, 8388607, 8388607, 268435455, 536870911, 1073741823, 2147483647, 4294967295, 4294967295, 17179869183, 34359738367, 68719476735]) .z))))) = law40_CanonRights_c k4 k5 k6 k7 k8 k9 k10 k11 k12 k13 k14 := by kernel_rfl
theorem law40_CanonRights_sound : FSound RO Tryz.prog 3 law40_CanonRights := sdf (law40_CanonRights_run _ _ _ _ _ _ _ _ _ _ _) (gcons law40_awake_ent law40_awake_sound <| gcons law40_few_ent law40_few_sound <| gcons law40_Ref_ent law40_Ref_sound <| gcons canon_Right_ent canon_Right_sound <| gcons haymowref40_Right_ent haymowref40_Right_sound <| gcons canon_Same_ent canon_Same_sound <| gcons law40_Is_ent law40_Is_sound <| gcons canon_Young_ent canon_Young_sound <| gcons haymowref40_Young_ent haymowref40_Young_sound <| gcons canon_Words_ent canon_Words_sound <| gcons haymowref40_Words_ent haymowref40_Words_sound <| gnil) Tryz.func3 (by kernel_rfl)
end
end Go.Abs.Tryz
