/-
  What functions of the program do. No conditions.
-/
import Derived.Test.YteklninbijohcaaS4t
import Derived.Test.YteklninbijohcaaProg
import Derived.KernelRfl
set_option linter.unusedVariables false
set_option linter.unusedSimpArgs false
set_option linter.constructorNameAsVariable false
set_option maxRecDepth 100000
namespace Go.Abs.Try
open Go Go.Abs Go.Proofs

/-- haymow/haymowlaw47.ref -/
noncomputable def law47_ref_c {O : Type} (k35 : Sm O) : Sm O := fun xs σ =>
 bif Nat.beq xs.length 1 then
 (AV.asAgg 13 (xs.getD 0 .u)).bind fun c0 =>
 (AV.asI .i64 (c0.getD 0 .u)).bind fun n1 =>
 (AV.asI .i64 (c0.getD 1 .u)).bind fun n2 =>
 (AV.asI .i64 (c0.getD 2 .u)).bind fun n3 =>
 (AV.asI .i64 (c0.getD 3 .u)).bind fun n4 =>
 (AV.asI .u64 (c0.getD 4 .u)).bind fun n5 =>
 (AV.asI .i64 (c0.getD 5 .u)).bind fun n6 =>
 (AV.asI .i64 (c0.getD 6 .u)).bind fun n7 =>
 (AV.asI .i64 (c0.getD 7 .u)).bind fun n8 =>
 (AV.asI .i64 (c0.getD 8 .u)).bind fun n9 =>
 (AV.asB (c0.getD 9 .u)).bind fun b10 =>
 (AV.asSl (c0.getD 10 .u)).bind fun l11 =>
 (AV.asSl (c0.getD 11 .u)).bind fun l12 =>
 (AV.asSl (c0.getD 12 .u)).bind fun l13 =>
 let σ14 := σ.bump 2
 let σ15 := σ14.put σ.next (.cells true 76 [(.i .i64 n1), (.i .i64 n2), (.i .i64 n3), (.i .i64 n4), (.i .u64 n5), (.i .i64 n6), (.i .i64 n7), (.i .i64 n8), (.i .i64 n9), (.b b10), (.sl l11.1 l11.2), (.sl l12.1 l12.2), (.sl l13.1 l13.2)])
 let σ16 := σ15.put (σ.next + 1) (.cells true 80 [(.i .i64 0), (.i .i64 0), (.i .i64 0), (.i .i64 0), (.i .u64 0), (.i .i64 0), (.i .i64 0), (.i .i64 0), (.i .i64 0), (.b false), (.sl .nil 0), (.sl .nil 0), (.sl .nil 0)])
 let σ17 := σ16.bump 2
 (σ17.ld (.n σ.next) 5).bind fun w18 =>
 (AV.asI .i64 w18).bind fun n19 =>
 (σ17.ld (.n σ.next) 6).bind fun w20 =>
 (AV.asI .i64 w20).bind fun n21 =>
 (σ17.ld (.n σ.next) 7).bind fun w22 =>
 (AV.asI .i64 w22).bind fun n23 =>
 (σ17.ld (.n σ.next) 8).bind fun w24 =>
 (AV.asI .i64 w24).bind fun n25 =>
 (σ17.ld (.n σ.next) 9).bind fun w26 =>
 (AV.asB w26).bind fun b27 =>
 (σ17.ld (.n σ.next) 10).bind fun w28 =>
 (AV.asSl w28).bind fun l29 =>
 (σ17.ld (.n σ.next) 11).bind fun w30 =>
 (AV.asSl w30).bind fun l31 =>
 let σ32 := σ17.put σ16.next (.cells true 74 [(.i .i64 n19), (.i .i64 n21), (.i .i64 n23), (.i .i64 n25), (.b b27), (.sl l29.1 l29.2), (.sl l31.1 l31.2)])
 (k35 [(.agg [(.sl (.loc (.n σ16.next) 0 7) 1), (.sl .nil 0), (.sl .nil 0)])] σ32).bind fun r33 =>
 (AV.asAgg 3 r33.1).bind fun c34 =>
 (AV.asSl (c34.getD 0 .u)).bind fun l35 =>
 (AV.asSl (c34.getD 1 .u)).bind fun l36 =>
 (AV.asSl (c34.getD 2 .u)).bind fun l37 =>
 (bif (decide ((0 : Int) < (l35.2 : Int))) then
 (SA.ref l35.1).bind fun q38 =>
 (r33.2.ld q38.1 q38.2).bind fun w39 =>
 (AV.asI .i64 w39).bind fun n40 =>
 (r33.2.ld q38.1 (q38.2 + 1)).bind fun w41 =>
 (AV.asI .i64 w41).bind fun n42 =>
 (r33.2.ld q38.1 ((q38.2 + 1) + 1)).bind fun w43 =>
 (AV.asI .i64 w43).bind fun n44 =>
 (r33.2.ld q38.1 (((q38.2 + 1) + 1) + 1)).bind fun w45 =>
 (AV.asI .i64 w45).bind fun n46 =>
 (r33.2.ld q38.1 ((((q38.2 + 1) + 1) + 1) + 1)).bind fun w47 =>
 (AV.asB w47).bind fun b48 =>
 (r33.2.ld q38.1 (((((q38.2 + 1) + 1) + 1) + 1) + 1)).bind fun w49 =>
 (AV.asSl w49).bind fun l50 =>
 (r33.2.ld q38.1 ((((((q38.2 + 1) + 1) + 1) + 1) + 1) + 1)).bind fun w51 =>
 (AV.asSl w51).bind fun l52 =>
 let σ53 := r33.2.put (σ16.next + 1) (.cells true 78 [(.i .i64 0), (.i .i64 0), (.i .i64 0), (.i .i64 0), (.b false), (.sl .nil 0), (.sl .nil 0)])
 (σ53.st (.n (σ16.next + 1)) 0 [(.i .i64 n40), (.i .i64 n42), (.i .i64 n44), (.i .i64 n46), (.b b48), (.sl l50.1 l50.2), (.sl l52.1 l52.2)]).bind fun σ54 =>
 (σ54.ld (.n σ.next) 0).bind fun w55 =>
 (AV.asI .i64 w55).bind fun n56 =>
 (σ54.ld (.n σ.next) 1).bind fun w57 =>
 (AV.asI .i64 w57).bind fun n58 =>
 (σ54.ld (.n σ.next) 2).bind fun w59 =>
 (AV.asI .i64 w59).bind fun n60 =>
 (σ54.ld (.n σ.next) 3).bind fun w61 =>
 (AV.asI .i64 w61).bind fun n62 =>
 (σ54.ld (.n σ.next) 4).bind fun w63 =>
 (AV.asI .u64 w63).bind fun n64 =>
 (σ54.ld (.n (σ16.next + 1)) 0).bind fun w65 =>
 (AV.asI .i64 w65).bind fun n66 =>
 (σ54.ld (.n (σ16.next + 1)) 1).bind fun w67 =>
 (AV.asI .i64 w67).bind fun n68 =>
 (σ54.ld (.n (σ16.next + 1)) 2).bind fun w69 =>
 (AV.asI .i64 w69).bind fun n70 =>
 (σ54.ld (.n (σ16.next + 1)) 3).bind fun w71 =>
 (AV.asI .i64 w71).bind fun n72 =>
 (σ54.ld (.n (σ16.next + 1)) 4).bind fun w73 =>
 (AV.asB w73).bind fun b74 =>
 (σ54.ld (.n (σ16.next + 1)) 5).bind fun w75 =>
 (AV.asSl w75).bind fun l76 =>
 (σ54.ld (.n (σ16.next + 1)) 6).bind fun w77 =>
 (AV.asSl w77).bind fun l78 =>
 (σ54.ld (.n σ.next) 12).bind fun w79 =>
 (AV.asSl w79).bind fun l80 =>
 (σ54.st (.n (σ.next + 1)) 0 [(.i .i64 n56), (.i .i64 n58), (.i .i64 n60), (.i .i64 n62), (.i .u64 n64), (.i .i64 n66), (.i .i64 n68), (.i .i64 n70), (.i .i64 n72), (.b b74), (.sl l76.1 l76.2), (.sl l78.1 l78.2), (.sl l80.1 l80.2)]).bind fun σ81 =>
 (σ81.ld (.n (σ.next + 1)) 0).bind fun w82 =>
 (AV.asI .i64 w82).bind fun n83 =>
 (σ81.ld (.n (σ.next + 1)) 1).bind fun w84 =>
 (AV.asI .i64 w84).bind fun n85 =>
 (σ81.ld (.n (σ.next + 1)) 2).bind fun w86 =>
 (AV.asI .i64 w86).bind fun n87 =>
 (σ81.ld (.n (σ.next + 1)) 3).bind fun w88 =>
 (AV.asI .i64 w88).bind fun n89 =>
 (σ81.ld (.n (σ.next + 1)) 4).bind fun w90 =>
 (AV.asI .u64 w90).bind fun n91 =>
 (σ81.ld (.n (σ.next + 1)) 5).bind fun w92 =>
 (AV.asI .i64 w92).bind fun n93 =>
 (σ81.ld (.n (σ.next + 1)) 6).bind fun w94 =>
 (AV.asI .i64 w94).bind fun n95 =>
 (σ81.ld (.n (σ.next + 1)) 7).bind fun w96 =>
 (AV.asI .i64 w96).bind fun n97 =>
 (σ81.ld (.n (σ.next + 1)) 8).bind fun w98 =>
 (AV.asI .i64 w98).bind fun n99 =>
 (σ81.ld (.n (σ.next + 1)) 9).bind fun w100 =>
 (AV.asB w100).bind fun b101 =>
 (σ81.ld (.n (σ.next + 1)) 10).bind fun w102 =>
 (AV.asSl w102).bind fun l103 =>
 (σ81.ld (.n (σ.next + 1)) 11).bind fun w104 =>
 (AV.asSl w104).bind fun l105 =>
 (σ81.ld (.n (σ.next + 1)) 12).bind fun w106 =>
 (AV.asSl w106).bind fun l107 =>
 some ((.agg [(.i .i64 n83), (.i .i64 n85), (.i .i64 n87), (.i .i64 n89), (.i .u64 n91), (.i .i64 n93), (.i .i64 n95), (.i .i64 n97), (.i .i64 n99), (.b b101), (.sl l103.1 l103.2), (.sl l105.1 l105.2), (.sl l107.1 l107.2)]), σ81)
 else none)
 else none
noncomputable def law47_ref {O : Type} : Sm O := frz (law47_ref_c (fza law40_Ref))
theorem law47_ref_ent : Entered Try.prog 84 := Try.call84
theorem law47_ref_run {O : Type} (k35 : Sm O) : run (O := O) Try.prog [(35, k35)] Try.f84 (.n .z (.n .z .z)) = law47_ref_c k35 := by kernel_rfl
theorem law47_ref_sound {O : Type} {RO : O → Loc → (Nat → Option Obj) → Prop} : FSound RO Try.prog 84 (law47_ref) :=
   have h : FSound RO Try.prog 84 (law47_ref_c (fza law40_Ref)) := (law47_ref_run (fza law40_Ref)) ▸ run_sound (gcons law40_Ref_ent (law40_Ref_sound).fza <| gnil) mixed Try.func84 (by kernel_rfl) _
   h.frz

/-- haymow/haymowlaw47.refs -/
noncomputable def law47_refs_L1 {O : Type} (l0 : SA × Nat) (k84 : Sm O) : List AV × AH O → Option ((List AV × AH O) ⊕ (List AV × AH O)) := (fun r1 =>
 (AV.asSl (r1.1.getD 0 .u)).bind fun l2 =>
 (AV.asI .i64 (r1.1.getD 1 .u)).bind fun n3 =>
 (bif (decide (n3 < (l0.2 : Int))) then
 let σ4 := r1.2.bump 2
 (bif ((decide ((0 : Int) ≤ n3)) && (decide (n3 < (l0.2 : Int)))) then
 (SA.ref l0.1).bind fun q5 =>
 (σ4.ld q5.1 (q5.2 + (n3.toNat * 13))).bind fun w6 =>
 (AV.asI .i64 w6).bind fun n7 =>
 (σ4.ld q5.1 ((q5.2 + (n3.toNat * 13)) + 1)).bind fun w8 =>
 (AV.asI .i64 w8).bind fun n9 =>
 (σ4.ld q5.1 (((q5.2 + (n3.toNat * 13)) + 1) + 1)).bind fun w10 =>
 (AV.asI .i64 w10).bind fun n11 =>
 (σ4.ld q5.1 ((((q5.2 + (n3.toNat * 13)) + 1) + 1) + 1)).bind fun w12 =>
 (AV.asI .i64 w12).bind fun n13 =>
 (σ4.ld q5.1 (((((q5.2 + (n3.toNat * 13)) + 1) + 1) + 1) + 1)).bind fun w14 =>
 (AV.asI .u64 w14).bind fun n15 =>
 (σ4.ld q5.1 ((((((q5.2 + (n3.toNat * 13)) + 1) + 1) + 1) + 1) + 1)).bind fun w16 =>
 (AV.asI .i64 w16).bind fun n17 =>
 (σ4.ld q5.1 (((((((q5.2 + (n3.toNat * 13)) + 1) + 1) + 1) + 1) + 1) + 1)).bind fun w18 =>
 (AV.asI .i64 w18).bind fun n19 =>
 (σ4.ld q5.1 ((((((((q5.2 + (n3.toNat * 13)) + 1) + 1) + 1) + 1) + 1) + 1) + 1)).bind fun w20 =>
 (AV.asI .i64 w20).bind fun n21 =>
 (σ4.ld q5.1 (((((((((q5.2 + (n3.toNat * 13)) + 1) + 1) + 1) + 1) + 1) + 1) + 1) + 1)).bind fun w22 =>
 (AV.asI .i64 w22).bind fun n23 =>
 (σ4.ld q5.1 ((((((((((q5.2 + (n3.toNat * 13)) + 1) + 1) + 1) + 1) + 1) + 1) + 1) + 1) + 1)).bind fun w24 =>
 (AV.asB w24).bind fun b25 =>
 (σ4.ld q5.1 (((((((((((q5.2 + (n3.toNat * 13)) + 1) + 1) + 1) + 1) + 1) + 1) + 1) + 1) + 1) + 1)).bind fun w26 =>
 (AV.asSl w26).bind fun l27 =>
 (σ4.ld q5.1 ((((((((((((q5.2 + (n3.toNat * 13)) + 1) + 1) + 1) + 1) + 1) + 1) + 1) + 1) + 1) + 1) + 1)).bind fun w28 =>
 (AV.asSl w28).bind fun l29 =>
 (σ4.ld q5.1 (((((((((((((q5.2 + (n3.toNat * 13)) + 1) + 1) + 1) + 1) + 1) + 1) + 1) + 1) + 1) + 1) + 1) + 1)).bind fun w30 =>
 (AV.asSl w30).bind fun l31 =>
 (k84 [(.agg [(.i .i64 n7), (.i .i64 n9), (.i .i64 n11), (.i .i64 n13), (.i .u64 n15), (.i .i64 n17), (.i .i64 n19), (.i .i64 n21), (.i .i64 n23), (.b b25), (.sl l27.1 l27.2), (.sl l29.1 l29.2), (.sl l31.1 l31.2)])] σ4).bind fun r32 =>
 (AV.asAgg 13 r32.1).bind fun c33 =>
 (AV.asI .i64 (c33.getD 0 .u)).bind fun n34 =>
 (AV.asI .i64 (c33.getD 1 .u)).bind fun n35 =>
 (AV.asI .i64 (c33.getD 2 .u)).bind fun n36 =>
 (AV.asI .i64 (c33.getD 3 .u)).bind fun n37 =>
 (AV.asI .u64 (c33.getD 4 .u)).bind fun n38 =>
 (AV.asI .i64 (c33.getD 5 .u)).bind fun n39 =>
 (AV.asI .i64 (c33.getD 6 .u)).bind fun n40 =>
 (AV.asI .i64 (c33.getD 7 .u)).bind fun n41 =>
 (AV.asI .i64 (c33.getD 8 .u)).bind fun n42 =>
 (AV.asB (c33.getD 9 .u)).bind fun b43 =>
 (AV.asSl (c33.getD 10 .u)).bind fun l44 =>
 (AV.asSl (c33.getD 11 .u)).bind fun l45 =>
 (AV.asSl (c33.getD 12 .u)).bind fun l46 =>
 let σ47 := r32.2.put r1.2.next (.cells true 80 [(.i .i64 n34), (.i .i64 n35), (.i .i64 n36), (.i .i64 n37), (.i .u64 n38), (.i .i64 n39), (.i .i64 n40), (.i .i64 n41), (.i .i64 n42), (.b b43), (.sl l44.1 l44.2), (.sl l45.1 l45.2), (.sl l46.1 l46.2)])
 (σ47.rdSl (.loc (.n r1.2.next) 0 13) 1 13).bind fun new48 =>
 (bif (Nat.ble ((l2.2 + 1) * 153) 35184372088832) then
 (σ47.appSl (r1.2.next + 1) 80 13 l2.1 l2.2 1 new48).bind fun r49 =>
 (AV.asSl r49.1).bind fun l50 =>
 some (Sum.inl ([(.sl l50.1 l50.2), (.i .i64 (IntKind.i64.wrap (n3 + 1)))], r49.2))
 else none)
 else none)
 else some (Sum.inr ([(.sl l2.1 l2.2)], r1.2))))
noncomputable def law47_refs_c {O : Type} (k84 : Sm O) : Sm O := fun xs σ =>
 bif Nat.beq xs.length 1 then
 (AV.asSl (xs.getD 0 .u)).bind fun l0 =>
 (loopF (S := List AV × AH O) (T := List AV × AH O) (law47_refs_L1 l0 k84) ([(.sl .nil 0), (.i .i64 0)], σ)).bind fun r51 =>
 (AV.asSl (r51.1.getD 0 .u)).bind fun l52 =>
 some ((.sl l52.1 l52.2), r51.2)
 else none
noncomputable def law47_refs {O : Type} : Sm O := frz (law47_refs_c law47_ref)
theorem law47_refs_ent : Entered Try.prog 46 := Try.call46
theorem law47_refs_run {O : Type} (k84 : Sm O) : run (O := O) Try.prog [(84, k84)] Try.f46 (.n .z (.n .z (.n (.n .z (.n (.lp false 0 [(3, .one .sl), (4, .one (.i .i64))] [(3, .one .sl)] (.n (.n .z .z) (.n .z .z))) .z)) .z))) = law47_refs_c k84 := by kernel_rfl
theorem law47_refs_sound {O : Type} {RO : O → Loc → (Nat → Option Obj) → Prop} : FSound RO Try.prog 46 (law47_refs) :=
   have h : FSound RO Try.prog 46 (law47_refs_c law47_ref) := (law47_refs_run law47_ref) ▸ run_sound (gcons law47_ref_ent (law47_ref_sound) <| gnil) mixed Try.func46 (by kernel_rfl) _
   h.frz

/-- haymow/haymowref47.with -/
noncomputable def haymowref47_with_c {O : Type} : Sm O := fun xs σ =>
 bif Nat.beq xs.length 3 then
 (AV.asAgg 3 (xs.getD 0 .u)).bind fun c0 =>
 (AV.asSl (c0.getD 0 .u)).bind fun l1 =>
 (AV.asSl (c0.getD 1 .u)).bind fun l2 =>
 (AV.asSl (c0.getD 2 .u)).bind fun l3 =>
 (AV.asI .i64 (xs.getD 1 .u)).bind fun n4 =>
 (AV.asAgg 7 (xs.getD 2 .u)).bind fun c5 =>
 (AV.asI .i64 (c5.getD 0 .u)).bind fun n6 =>
 (AV.asI .i64 (c5.getD 1 .u)).bind fun n7 =>
 (AV.asI .i64 (c5.getD 2 .u)).bind fun n8 =>
 (AV.asI .i64 (c5.getD 3 .u)).bind fun n9 =>
 (AV.asB (c5.getD 4 .u)).bind fun b10 =>
 (AV.asSl (c5.getD 5 .u)).bind fun l11 =>
 (AV.asSl (c5.getD 6 .u)).bind fun l12 =>
 let σ13 := σ.bump 3
 let σ14 := σ13.put σ.next (.cells true 52 [(.sl l1.1 l1.2), (.sl l2.1 l2.2), (.sl l3.1 l3.2)])
 let σ15 := σ14.put (σ.next + 1) (.cells true 78 [(.i .i64 n6), (.i .i64 n7), (.i .i64 n8), (.i .i64 n9), (.b b10), (.sl l11.1 l11.2), (.sl l12.1 l12.2)])
 let σ16 := σ15.put ((σ.next + 1) + 1) (.cells true 52 [(.sl .nil 0), (.sl .nil 0), (.sl .nil 0)])
 let σ17 := σ16.bump 2
 let σ18 := σ17.put σ16.next (.cells true 78 [])
 (σ18.ld (.n σ.next) 0).bind fun w19 =>
 (AV.asSl w19).bind fun l20 =>
 (σ18.rdSl l20.1 l20.2 7).bind fun new21 =>
 (bif (Nat.ble ((0 + l20.2) * 89) 35184372088832) then
 (σ18.appSl (σ16.next + 1) 78 7 (.loc (.n σ16.next) 0 7) 0 l20.2 new21).bind fun r22 =>
 (AV.asSl r22.1).bind fun l23 =>
 (r22.2.st (.n σ.next) 0 [(.sl l23.1 l23.2)]).bind fun σ24 =>
 (σ24.ld (.n σ.next) 0).bind fun w25 =>
 (AV.asSl w25).bind fun l26 =>
 (σ24.ld (.n (σ.next + 1)) 0).bind fun w27 =>
 (AV.asI .i64 w27).bind fun n28 =>
 (σ24.ld (.n (σ.next + 1)) 1).bind fun w29 =>
 (AV.asI .i64 w29).bind fun n30 =>
 (σ24.ld (.n (σ.next + 1)) 2).bind fun w31 =>
 (AV.asI .i64 w31).bind fun n32 =>
 (σ24.ld (.n (σ.next + 1)) 3).bind fun w33 =>
 (AV.asI .i64 w33).bind fun n34 =>
 (σ24.ld (.n (σ.next + 1)) 4).bind fun w35 =>
 (AV.asB w35).bind fun b36 =>
 (σ24.ld (.n (σ.next + 1)) 5).bind fun w37 =>
 (AV.asSl w37).bind fun l38 =>
 (σ24.ld (.n (σ.next + 1)) 6).bind fun w39 =>
 (AV.asSl w39).bind fun l40 =>
 (bif ((decide ((0 : Int) ≤ n4)) && (decide (n4 < (l26.2 : Int)))) then
 (SA.ref l26.1).bind fun q41 =>
 (σ24.st q41.1 (q41.2 + (n4.toNat * 7)) [(.i .i64 n28), (.i .i64 n30), (.i .i64 n32), (.i .i64 n34), (.b b36), (.sl l38.1 l38.2), (.sl l40.1 l40.2)]).bind fun σ42 =>
 (σ42.ld (.n σ.next) 0).bind fun w43 =>
 (AV.asSl w43).bind fun l44 =>
 (σ42.ld (.n σ.next) 1).bind fun w45 =>
 (AV.asSl w45).bind fun l46 =>
 (σ42.ld (.n σ.next) 2).bind fun w47 =>
 (AV.asSl w47).bind fun l48 =>
 (σ42.st (.n ((σ.next + 1) + 1)) 0 [(.sl l44.1 l44.2), (.sl l46.1 l46.2), (.sl l48.1 l48.2)]).bind fun σ49 =>
 (σ49.ld (.n ((σ.next + 1) + 1)) 0).bind fun w50 =>
 (AV.asSl w50).bind fun l51 =>
 (σ49.ld (.n ((σ.next + 1) + 1)) 1).bind fun w52 =>
 (AV.asSl w52).bind fun l53 =>
 (σ49.ld (.n ((σ.next + 1) + 1)) 2).bind fun w54 =>
 (AV.asSl w54).bind fun l55 =>
 some ((.agg [(.sl l51.1 l51.2), (.sl l53.1 l53.2), (.sl l55.1 l55.2)]), σ49)
 else none)
 else none)
 else none
noncomputable def haymowref47_with {O : Type} : Sm O := frz (haymowref47_with_c)
theorem haymowref47_with_ent : Entered Try.prog 111 := Try.call111
theorem haymowref47_with_run {O : Type} : run (O := O) Try.prog [] Try.f111 (.n .z (.n .z (.n .z .z))) = haymowref47_with_c  := by kernel_rfl
theorem haymowref47_with_sound {O : Type} {RO : O → Loc → (Nat → Option Obj) → Prop} : FSound RO Try.prog 111 (haymowref47_with) :=
   have h : FSound RO Try.prog 111 (haymowref47_with_c) := (haymowref47_with_run) ▸ run_sound (gnil) mixed Try.func111 (by kernel_rfl) _
   h.frz

/-- haymow/haymowref47.one -/
noncomputable def haymowref47_one_L1 {O : Type} (σ : AH O) : List AV × AH O → Option ((List AV × AH O) ⊕ (List AV × AH O)) := (fun r43 =>
 (AV.asSl (r43.1.getD 0 .u)).bind fun l44 =>
 (AV.asI .i64 (r43.1.getD 1 .u)).bind fun n45 =>
 (r43.2.ld (.n (σ.next + 1)) 3).bind fun w46 =>
 (AV.asI .i64 w46).bind fun n47 =>
 (bif (decide (n45 < n47)) then
 (r43.2.ld (.n σ.next) 0).bind fun w48 =>
 (AV.asSl w48).bind fun l49 =>
 ((bif (decide (n45 < (l49.2 : Int))) then
 let σ50 := r43.2.bump 2
 (σ50.ld (.n σ.next) 0).bind fun w51 =>
 (AV.asSl w51).bind fun l52 =>
 (bif ((decide ((0 : Int) ≤ n45)) && (decide (n45 < (l52.2 : Int)))) then
 (SA.ref l52.1).bind fun q53 =>
 (σ50.ld q53.1 (q53.2 + (n45.toNat * 7))).bind fun w54 =>
 (AV.asI .i64 w54).bind fun n55 =>
 (σ50.ld q53.1 ((q53.2 + (n45.toNat * 7)) + 1)).bind fun w56 =>
 (AV.asI .i64 w56).bind fun n57 =>
 (σ50.ld q53.1 (((q53.2 + (n45.toNat * 7)) + 1) + 1)).bind fun w58 =>
 (AV.asI .i64 w58).bind fun n59 =>
 (σ50.ld q53.1 ((((q53.2 + (n45.toNat * 7)) + 1) + 1) + 1)).bind fun w60 =>
 (AV.asI .i64 w60).bind fun n61 =>
 (σ50.ld q53.1 (((((q53.2 + (n45.toNat * 7)) + 1) + 1) + 1) + 1)).bind fun w62 =>
 (AV.asB w62).bind fun b63 =>
 (σ50.ld q53.1 ((((((q53.2 + (n45.toNat * 7)) + 1) + 1) + 1) + 1) + 1)).bind fun w64 =>
 (AV.asSl w64).bind fun l65 =>
 (σ50.ld q53.1 (((((((q53.2 + (n45.toNat * 7)) + 1) + 1) + 1) + 1) + 1) + 1)).bind fun w66 =>
 (AV.asSl w66).bind fun l67 =>
 let σ68 := σ50.put r43.2.next (.cells true 78 [(.i .i64 n55), (.i .i64 n57), (.i .i64 n59), (.i .i64 n61), (.b b63), (.sl l65.1 l65.2), (.sl l67.1 l67.2)])
 (σ68.rdSl (.loc (.n r43.2.next) 0 7) 1 7).bind fun new69 =>
 (bif (Nat.ble ((l44.2 + 1) * 89) 35184372088832) then
 (σ68.appSl (r43.2.next + 1) 78 7 l44.1 l44.2 1 new69).bind fun r70 =>
 (AV.asSl r70.1).bind fun l71 =>
 some ([(.sl l71.1 l71.2)], r70.2)
 else none)
 else none)
 else let σ72 := r43.2.bump 2
 let σ73 := σ72.put r43.2.next (.cells true 78 [(.i .i64 0), (.i .i64 0), (.i .i64 0), (.i .i64 0), (.b false), (.sl .nil 0), (.sl .nil 0)])
 (σ73.rdSl (.loc (.n r43.2.next) 0 7) 1 7).bind fun new74 =>
 (bif (Nat.ble ((l44.2 + 1) * 89) 35184372088832) then
 (σ73.appSl (r43.2.next + 1) 78 7 l44.1 l44.2 1 new74).bind fun r75 =>
 (AV.asSl r75.1).bind fun l76 =>
 some ([(.sl l76.1 l76.2)], r75.2)
 else none)) : Option (List AV × AH O)).bind fun r77 =>
 (AV.asSl (r77.1.getD 0 .u)).bind fun l78 =>
 some (Sum.inl ([(.sl l78.1 l78.2), (.i .i64 (IntKind.i64.wrap (n45 + 1)))], r77.2))
 else some (Sum.inr ([(.sl l44.1 l44.2)], r43.2))))
noncomputable def haymowref47_one_c {O : Type} (k111 : Sm O) : Sm O := fun xs σ =>
 bif Nat.beq xs.length 2 then
 (AV.asAgg 3 (xs.getD 0 .u)).bind fun c0 =>
 (AV.asSl (c0.getD 0 .u)).bind fun l1 =>
 (AV.asSl (c0.getD 1 .u)).bind fun l2 =>
 (AV.asSl (c0.getD 2 .u)).bind fun l3 =>
 (AV.asAgg 13 (xs.getD 1 .u)).bind fun c4 =>
 (AV.asI .i64 (c4.getD 0 .u)).bind fun n5 =>
 (AV.asI .i64 (c4.getD 1 .u)).bind fun n6 =>
 (AV.asI .i64 (c4.getD 2 .u)).bind fun n7 =>
 (AV.asI .i64 (c4.getD 3 .u)).bind fun n8 =>
 (AV.asI .u64 (c4.getD 4 .u)).bind fun n9 =>
 (AV.asI .i64 (c4.getD 5 .u)).bind fun n10 =>
 (AV.asI .i64 (c4.getD 6 .u)).bind fun n11 =>
 (AV.asI .i64 (c4.getD 7 .u)).bind fun n12 =>
 (AV.asI .i64 (c4.getD 8 .u)).bind fun n13 =>
 (AV.asB (c4.getD 9 .u)).bind fun b14 =>
 (AV.asSl (c4.getD 10 .u)).bind fun l15 =>
 (AV.asSl (c4.getD 11 .u)).bind fun l16 =>
 (AV.asSl (c4.getD 12 .u)).bind fun l17 =>
 let σ18 := σ.bump 3
 let σ19 := σ18.put σ.next (.cells true 52 [(.sl l1.1 l1.2), (.sl l2.1 l2.2), (.sl l3.1 l3.2)])
 let σ20 := σ19.put (σ.next + 1) (.cells true 80 [(.i .i64 n5), (.i .i64 n6), (.i .i64 n7), (.i .i64 n8), (.i .u64 n9), (.i .i64 n10), (.i .i64 n11), (.i .i64 n12), (.i .i64 n13), (.b b14), (.sl l15.1 l15.2), (.sl l16.1 l16.2), (.sl l17.1 l17.2)])
 let σ21 := σ20.put ((σ.next + 1) + 1) (.cells true 52 [(.sl .nil 0), (.sl .nil 0), (.sl .nil 0)])
 (σ21.ld (.n (σ.next + 1)) 0).bind fun w22 =>
 (AV.asI .i64 w22).bind fun n23 =>
 (bif ((n23 : Int) == 0) then
 (σ21.ld (.n (σ.next + 1)) 3).bind fun w24 =>
 (AV.asI .i64 w24).bind fun n25 =>
 ((bif ((decide (n25 < 0)) == false) then
 (σ21.ld (.n (σ.next + 1)) 3).bind fun w26 =>
 (AV.asI .i64 w26).bind fun n27 =>
 some ([(.b (decide (n27 > 1048576)))], σ21)
 else some ([(.b true)], σ21)) : Option (List AV × AH O)).bind fun r28 =>
 (AV.asB (r28.1.getD 0 .u)).bind fun b29 =>
 (bif b29 then
 (r28.2.ld (.n σ.next) 0).bind fun w30 =>
 (AV.asSl w30).bind fun l31 =>
 (r28.2.ld (.n σ.next) 1).bind fun w32 =>
 (AV.asSl w32).bind fun l33 =>
 (r28.2.ld (.n σ.next) 2).bind fun w34 =>
 (AV.asSl w34).bind fun l35 =>
 (r28.2.st (.n ((σ.next + 1) + 1)) 0 [(.sl l31.1 l31.2), (.sl l33.1 l33.2), (.sl l35.1 l35.2)]).bind fun σ36 =>
 (σ36.ld (.n ((σ.next + 1) + 1)) 0).bind fun w37 =>
 (AV.asSl w37).bind fun l38 =>
 (σ36.ld (.n ((σ.next + 1) + 1)) 1).bind fun w39 =>
 (AV.asSl w39).bind fun l40 =>
 (σ36.ld (.n ((σ.next + 1) + 1)) 2).bind fun w41 =>
 (AV.asSl w41).bind fun l42 =>
 some ((.tup [(.agg [(.sl l38.1 l38.2), (.sl l40.1 l40.2), (.sl l42.1 l42.2)]), (.i .i64 2)]), σ36)
 else (loopF (S := List AV × AH O) (T := List AV × AH O) (haymowref47_one_L1 σ) ([(.sl .nil 0), (.i .i64 0)], r28.2)).bind fun r79 =>
 (AV.asSl (r79.1.getD 0 .u)).bind fun l80 =>
 (r79.2.st (.n σ.next) 0 [(.sl l80.1 l80.2)]).bind fun σ81 =>
 (σ81.ld (.n σ.next) 0).bind fun w82 =>
 (AV.asSl w82).bind fun l83 =>
 (σ81.ld (.n σ.next) 1).bind fun w84 =>
 (AV.asSl w84).bind fun l85 =>
 (σ81.ld (.n σ.next) 2).bind fun w86 =>
 (AV.asSl w86).bind fun l87 =>
 (σ81.st (.n ((σ.next + 1) + 1)) 0 [(.sl l83.1 l83.2), (.sl l85.1 l85.2), (.sl l87.1 l87.2)]).bind fun σ88 =>
 (σ88.ld (.n ((σ.next + 1) + 1)) 0).bind fun w89 =>
 (AV.asSl w89).bind fun l90 =>
 (σ88.ld (.n ((σ.next + 1) + 1)) 1).bind fun w91 =>
 (AV.asSl w91).bind fun l92 =>
 (σ88.ld (.n ((σ.next + 1) + 1)) 2).bind fun w93 =>
 (AV.asSl w93).bind fun l94 =>
 some ((.tup [(.agg [(.sl l90.1 l90.2), (.sl l92.1 l92.2), (.sl l94.1 l94.2)]), (.i .i64 0)]), σ88))
 else (bif ((n23 : Int) == 4) then
 (σ21.ld (.n (σ.next + 1)) 12).bind fun w95 =>
 (AV.asSl w95).bind fun l96 =>
 (σ21.st (.n σ.next) 1 [(.sl l96.1 l96.2)]).bind fun σ97 =>
 (σ97.ld (.n σ.next) 0).bind fun w98 =>
 (AV.asSl w98).bind fun l99 =>
 (σ97.ld (.n σ.next) 1).bind fun w100 =>
 (AV.asSl w100).bind fun l101 =>
 (σ97.ld (.n σ.next) 2).bind fun w102 =>
 (AV.asSl w102).bind fun l103 =>
 (σ97.st (.n ((σ.next + 1) + 1)) 0 [(.sl l99.1 l99.2), (.sl l101.1 l101.2), (.sl l103.1 l103.2)]).bind fun σ104 =>
 (σ104.ld (.n ((σ.next + 1) + 1)) 0).bind fun w105 =>
 (AV.asSl w105).bind fun l106 =>
 (σ104.ld (.n ((σ.next + 1) + 1)) 1).bind fun w107 =>
 (AV.asSl w107).bind fun l108 =>
 (σ104.ld (.n ((σ.next + 1) + 1)) 2).bind fun w109 =>
 (AV.asSl w109).bind fun l110 =>
 some ((.tup [(.agg [(.sl l106.1 l106.2), (.sl l108.1 l108.2), (.sl l110.1 l110.2)]), (.i .i64 0)]), σ104)
 else (bif ((n23 : Int) == 5) then
 (σ21.ld (.n (σ.next + 1)) 12).bind fun w111 =>
 (AV.asSl w111).bind fun l112 =>
 (σ21.st (.n σ.next) 2 [(.sl l112.1 l112.2)]).bind fun σ113 =>
 (σ113.ld (.n σ.next) 0).bind fun w114 =>
 (AV.asSl w114).bind fun l115 =>
 (σ113.ld (.n σ.next) 1).bind fun w116 =>
 (AV.asSl w116).bind fun l117 =>
 (σ113.ld (.n σ.next) 2).bind fun w118 =>
 (AV.asSl w118).bind fun l119 =>
 (σ113.st (.n ((σ.next + 1) + 1)) 0 [(.sl l115.1 l115.2), (.sl l117.1 l117.2), (.sl l119.1 l119.2)]).bind fun σ120 =>
 (σ120.ld (.n ((σ.next + 1) + 1)) 0).bind fun w121 =>
 (AV.asSl w121).bind fun l122 =>
 (σ120.ld (.n ((σ.next + 1) + 1)) 1).bind fun w123 =>
 (AV.asSl w123).bind fun l124 =>
 (σ120.ld (.n ((σ.next + 1) + 1)) 2).bind fun w125 =>
 (AV.asSl w125).bind fun l126 =>
 some ((.tup [(.agg [(.sl l122.1 l122.2), (.sl l124.1 l124.2), (.sl l126.1 l126.2)]), (.i .i64 0)]), σ120)
 else ((bif ((n23 : Int) == 1) then
 some ([(.b ((n23 : Int) == 1))], σ21)
 else ((bif ((n23 : Int) == 2) then
 some ([(.b ((n23 : Int) == 2))], σ21)
 else some ([(.b ((n23 : Int) == 3))], σ21)) : Option (List AV × AH O)).bind fun r127 =>
 (AV.asB (r127.1.getD 0 .u)).bind fun b128 =>
 some ([(.b b128)], r127.2)) : Option (List AV × AH O)).bind fun r129 =>
 (AV.asB (r129.1.getD 0 .u)).bind fun b130 =>
 (bif b130 then
 (r129.2.ld (.n (σ.next + 1)) 1).bind fun w131 =>
 (AV.asI .i64 w131).bind fun n132 =>
 ((bif ((decide (n132 < 1)) == false) then
 (r129.2.ld (.n (σ.next + 1)) 1).bind fun w133 =>
 (AV.asI .i64 w133).bind fun n134 =>
 (r129.2.ld (.n σ.next) 0).bind fun w135 =>
 (AV.asSl w135).bind fun l136 =>
 some ([(.b (decide (n134 > (l136.2 : Int))))], r129.2)
 else some ([(.b true)], r129.2)) : Option (List AV × AH O)).bind fun r137 =>
 (AV.asB (r137.1.getD 0 .u)).bind fun b138 =>
 (bif b138 then
 (r137.2.ld (.n σ.next) 0).bind fun w139 =>
 (AV.asSl w139).bind fun l140 =>
 (r137.2.ld (.n σ.next) 1).bind fun w141 =>
 (AV.asSl w141).bind fun l142 =>
 (r137.2.ld (.n σ.next) 2).bind fun w143 =>
 (AV.asSl w143).bind fun l144 =>
 (r137.2.st (.n ((σ.next + 1) + 1)) 0 [(.sl l140.1 l140.2), (.sl l142.1 l142.2), (.sl l144.1 l144.2)]).bind fun σ145 =>
 (σ145.ld (.n ((σ.next + 1) + 1)) 0).bind fun w146 =>
 (AV.asSl w146).bind fun l147 =>
 (σ145.ld (.n ((σ.next + 1) + 1)) 1).bind fun w148 =>
 (AV.asSl w148).bind fun l149 =>
 (σ145.ld (.n ((σ.next + 1) + 1)) 2).bind fun w150 =>
 (AV.asSl w150).bind fun l151 =>
 some ((.tup [(.agg [(.sl l147.1 l147.2), (.sl l149.1 l149.2), (.sl l151.1 l151.2)]), (.i .i64 2)]), σ145)
 else (r137.2.ld (.n (σ.next + 1)) 0).bind fun w152 =>
 (AV.asI .i64 w152).bind fun n153 =>
 (bif ((n153 : Int) == 1) then
 (r137.2.ld (.n σ.next) 0).bind fun w154 =>
 (AV.asSl w154).bind fun l155 =>
 (r137.2.ld (.n σ.next) 1).bind fun w156 =>
 (AV.asSl w156).bind fun l157 =>
 (r137.2.ld (.n σ.next) 2).bind fun w158 =>
 (AV.asSl w158).bind fun l159 =>
 (r137.2.ld (.n (σ.next + 1)) 1).bind fun w160 =>
 (AV.asI .i64 w160).bind fun n161 =>
 (r137.2.ld (.n (σ.next + 1)) 5).bind fun w162 =>
 (AV.asI .i64 w162).bind fun n163 =>
 (r137.2.ld (.n (σ.next + 1)) 6).bind fun w164 =>
 (AV.asI .i64 w164).bind fun n165 =>
 (r137.2.ld (.n (σ.next + 1)) 7).bind fun w166 =>
 (AV.asI .i64 w166).bind fun n167 =>
 (r137.2.ld (.n (σ.next + 1)) 8).bind fun w168 =>
 (AV.asI .i64 w168).bind fun n169 =>
 (r137.2.ld (.n (σ.next + 1)) 9).bind fun w170 =>
 (AV.asB w170).bind fun b171 =>
 (r137.2.ld (.n (σ.next + 1)) 10).bind fun w172 =>
 (AV.asSl w172).bind fun l173 =>
 (r137.2.ld (.n (σ.next + 1)) 11).bind fun w174 =>
 (AV.asSl w174).bind fun l175 =>
 (k111 [(.agg [(.sl l155.1 l155.2), (.sl l157.1 l157.2), (.sl l159.1 l159.2)]), (.i .i64 (IntKind.i64.wrap (n161 - 1))), (.agg [(.i .i64 n163), (.i .i64 n165), (.i .i64 n167), (.i .i64 n169), (.b b171), (.sl l173.1 l173.2), (.sl l175.1 l175.2)])] r137.2).bind fun r176 =>
 (AV.asAgg 3 r176.1).bind fun c177 =>
 (AV.asSl (c177.getD 0 .u)).bind fun l178 =>
 (AV.asSl (c177.getD 1 .u)).bind fun l179 =>
 (AV.asSl (c177.getD 2 .u)).bind fun l180 =>
 (r176.2.st (.n ((σ.next + 1) + 1)) 0 [(.sl l178.1 l178.2), (.sl l179.1 l179.2), (.sl l180.1 l180.2)]).bind fun σ181 =>
 (σ181.ld (.n ((σ.next + 1) + 1)) 0).bind fun w182 =>
 (AV.asSl w182).bind fun l183 =>
 (σ181.ld (.n ((σ.next + 1) + 1)) 1).bind fun w184 =>
 (AV.asSl w184).bind fun l185 =>
 (σ181.ld (.n ((σ.next + 1) + 1)) 2).bind fun w186 =>
 (AV.asSl w186).bind fun l187 =>
 some ((.tup [(.agg [(.sl l183.1 l183.2), (.sl l185.1 l185.2), (.sl l187.1 l187.2)]), (.i .i64 0)]), σ181)
 else let σ188 := r137.2.bump 1
 (σ188.ld (.n σ.next) 0).bind fun w189 =>
 (AV.asSl w189).bind fun l190 =>
 (σ188.ld (.n (σ.next + 1)) 1).bind fun w191 =>
 (AV.asI .i64 w191).bind fun n192 =>
 (bif ((decide ((0 : Int) ≤ (IntKind.i64.wrap (n192 - 1)))) && (decide ((IntKind.i64.wrap (n192 - 1)) < (l190.2 : Int)))) then
 (SA.ref l190.1).bind fun q193 =>
 (σ188.ld q193.1 (q193.2 + ((IntKind.i64.wrap (n192 - 1)).toNat * 7))).bind fun w194 =>
 (AV.asI .i64 w194).bind fun n195 =>
 (σ188.ld q193.1 ((q193.2 + ((IntKind.i64.wrap (n192 - 1)).toNat * 7)) + 1)).bind fun w196 =>
 (AV.asI .i64 w196).bind fun n197 =>
 (σ188.ld q193.1 (((q193.2 + ((IntKind.i64.wrap (n192 - 1)).toNat * 7)) + 1) + 1)).bind fun w198 =>
 (AV.asI .i64 w198).bind fun n199 =>
 (σ188.ld q193.1 ((((q193.2 + ((IntKind.i64.wrap (n192 - 1)).toNat * 7)) + 1) + 1) + 1)).bind fun w200 =>
 (AV.asI .i64 w200).bind fun n201 =>
 (σ188.ld q193.1 (((((q193.2 + ((IntKind.i64.wrap (n192 - 1)).toNat * 7)) + 1) + 1) + 1) + 1)).bind fun w202 =>
 (AV.asB w202).bind fun b203 =>
 (σ188.ld q193.1 ((((((q193.2 + ((IntKind.i64.wrap (n192 - 1)).toNat * 7)) + 1) + 1) + 1) + 1) + 1)).bind fun w204 =>
 (AV.asSl w204).bind fun l205 =>
 (σ188.ld q193.1 (((((((q193.2 + ((IntKind.i64.wrap (n192 - 1)).toNat * 7)) + 1) + 1) + 1) + 1) + 1) + 1)).bind fun w206 =>
 (AV.asSl w206).bind fun l207 =>
 let σ208 := σ188.put r137.2.next (.cells true 78 [(.i .i64 0), (.i .i64 0), (.i .i64 0), (.i .i64 0), (.b false), (.sl .nil 0), (.sl .nil 0)])
 (σ208.st (.n r137.2.next) 0 [(.i .i64 n195), (.i .i64 n197), (.i .i64 n199), (.i .i64 n201), (.b b203), (.sl l205.1 l205.2), (.sl l207.1 l207.2)]).bind fun σ209 =>
 (σ209.ld (.n (σ.next + 1)) 2).bind fun w210 =>
 (AV.asI .i64 w210).bind fun n211 =>
 ((bif ((decide (n211 < 0)) == false) then
 (σ209.ld (.n (σ.next + 1)) 0).bind fun w212 =>
 (AV.asI .i64 w212).bind fun n213 =>
 ((bif (((n213 : Int) == 2) == true) then
 (σ209.ld (.n (σ.next + 1)) 2).bind fun w214 =>
 (AV.asI .i64 w214).bind fun n215 =>
 (σ209.ld (.n r137.2.next) 5).bind fun w216 =>
 (AV.asSl w216).bind fun l217 =>
 some ([(.b (decide (n215 ≥ (l217.2 : Int))))], σ209)
 else some ([(.b false)], σ209)) : Option (List AV × AH O)).bind fun r218 =>
 (AV.asB (r218.1.getD 0 .u)).bind fun b219 =>
 some ([(.b b219)], r218.2)
 else some ([(.b true)], σ209)) : Option (List AV × AH O)).bind fun r220 =>
 (AV.asB (r220.1.getD 0 .u)).bind fun b221 =>
 ((bif (b221 == false) then
 (r220.2.ld (.n (σ.next + 1)) 0).bind fun w222 =>
 (AV.asI .i64 w222).bind fun n223 =>
 ((bif (((n223 : Int) == 3) == true) then
 (r220.2.ld (.n (σ.next + 1)) 2).bind fun w224 =>
 (AV.asI .i64 w224).bind fun n225 =>
 (r220.2.ld (.n r137.2.next) 6).bind fun w226 =>
 (AV.asSl w226).bind fun l227 =>
 some ([(.b (decide (n225 ≥ (l227.2 : Int))))], r220.2)
 else some ([(.b false)], r220.2)) : Option (List AV × AH O)).bind fun r228 =>
 (AV.asB (r228.1.getD 0 .u)).bind fun b229 =>
 some ([(.b b229)], r228.2)
 else some ([(.b true)], r220.2)) : Option (List AV × AH O)).bind fun r230 =>
 (AV.asB (r230.1.getD 0 .u)).bind fun b231 =>
 (bif b231 then
 (r230.2.ld (.n σ.next) 0).bind fun w232 =>
 (AV.asSl w232).bind fun l233 =>
 (r230.2.ld (.n σ.next) 1).bind fun w234 =>
 (AV.asSl w234).bind fun l235 =>
 (r230.2.ld (.n σ.next) 2).bind fun w236 =>
 (AV.asSl w236).bind fun l237 =>
 (r230.2.st (.n ((σ.next + 1) + 1)) 0 [(.sl l233.1 l233.2), (.sl l235.1 l235.2), (.sl l237.1 l237.2)]).bind fun σ238 =>
 (σ238.ld (.n ((σ.next + 1) + 1)) 0).bind fun w239 =>
 (AV.asSl w239).bind fun l240 =>
 (σ238.ld (.n ((σ.next + 1) + 1)) 1).bind fun w241 =>
 (AV.asSl w241).bind fun l242 =>
 (σ238.ld (.n ((σ.next + 1) + 1)) 2).bind fun w243 =>
 (AV.asSl w243).bind fun l244 =>
 some ((.tup [(.agg [(.sl l240.1 l240.2), (.sl l242.1 l242.2), (.sl l244.1 l244.2)]), (.i .i64 2)]), σ238)
 else (r230.2.ld (.n (σ.next + 1)) 0).bind fun w245 =>
 (AV.asI .i64 w245).bind fun n246 =>
 ((bif ((n246 : Int) == 2) then
 let σ247 := r230.2.bump 2
 let σ248 := σ247.put r230.2.next (.cells true 3 [])
 (σ248.ld (.n r137.2.next) 5).bind fun w249 =>
 (AV.asSl w249).bind fun l250 =>
 (σ248.rdSl l250.1 l250.2 1).bind fun new251 =>
 (bif (Nat.ble ((0 + l250.2) * 9) 35184372088832) then
 (σ248.appSl (r230.2.next + 1) 3 1 (.loc (.n r230.2.next) 0 1) 0 l250.2 new251).bind fun r252 =>
 (AV.asSl r252.1).bind fun l253 =>
 (r252.2.st (.n r137.2.next) 5 [(.sl l253.1 l253.2)]).bind fun σ254 =>
 (σ254.ld (.n r137.2.next) 5).bind fun w255 =>
 (AV.asSl w255).bind fun l256 =>
 (σ254.ld (.n (σ.next + 1)) 2).bind fun w257 =>
 (AV.asI .i64 w257).bind fun n258 =>
 (σ254.ld (.n (σ.next + 1)) 3).bind fun w259 =>
 (AV.asI .i64 w259).bind fun n260 =>
 (bif ((decide ((0 : Int) ≤ n258)) && (decide (n258 < (l256.2 : Int)))) then
 (SA.ref l256.1).bind fun q261 =>
 (σ254.st q261.1 (q261.2 + (n258.toNat * 1)) [(.i .i64 n260)]).bind fun σ262 =>
 some ([], σ262)
 else none)
 else none)
 else let σ263 := r230.2.bump 2
 let σ264 := σ263.put r230.2.next (.cells true 22 [])
 (σ264.ld (.n r137.2.next) 6).bind fun w265 =>
 (AV.asSl w265).bind fun l266 =>
 (σ264.rdSl l266.1 l266.2 1).bind fun new267 =>
 (bif (Nat.ble ((0 + l266.2) * 9) 35184372088832) then
 (σ264.appSl (r230.2.next + 1) 22 1 (.loc (.n r230.2.next) 0 1) 0 l266.2 new267).bind fun r268 =>
 (AV.asSl r268.1).bind fun l269 =>
 (r268.2.st (.n r137.2.next) 6 [(.sl l269.1 l269.2)]).bind fun σ270 =>
 (σ270.ld (.n r137.2.next) 6).bind fun w271 =>
 (AV.asSl w271).bind fun l272 =>
 (σ270.ld (.n (σ.next + 1)) 2).bind fun w273 =>
 (AV.asI .i64 w273).bind fun n274 =>
 (σ270.ld (.n (σ.next + 1)) 4).bind fun w275 =>
 (AV.asI .u64 w275).bind fun n276 =>
 (bif ((decide ((0 : Int) ≤ n274)) && (decide (n274 < (l272.2 : Int)))) then
 (SA.ref l272.1).bind fun q277 =>
 (σ270.st q277.1 (q277.2 + (n274.toNat * 1)) [(.i .u64 n276)]).bind fun σ278 =>
 some ([], σ278)
 else none)
 else none)) : Option (List AV × AH O)).bind fun r279 =>
 (r279.2.ld (.n σ.next) 0).bind fun w280 =>
 (AV.asSl w280).bind fun l281 =>
 (r279.2.ld (.n σ.next) 1).bind fun w282 =>
 (AV.asSl w282).bind fun l283 =>
 (r279.2.ld (.n σ.next) 2).bind fun w284 =>
 (AV.asSl w284).bind fun l285 =>
 (r279.2.ld (.n (σ.next + 1)) 1).bind fun w286 =>
 (AV.asI .i64 w286).bind fun n287 =>
 (r279.2.ld (.n r137.2.next) 0).bind fun w288 =>
 (AV.asI .i64 w288).bind fun n289 =>
 (r279.2.ld (.n r137.2.next) 1).bind fun w290 =>
 (AV.asI .i64 w290).bind fun n291 =>
 (r279.2.ld (.n r137.2.next) 2).bind fun w292 =>
 (AV.asI .i64 w292).bind fun n293 =>
 (r279.2.ld (.n r137.2.next) 3).bind fun w294 =>
 (AV.asI .i64 w294).bind fun n295 =>
 (r279.2.ld (.n r137.2.next) 4).bind fun w296 =>
 (AV.asB w296).bind fun b297 =>
 (r279.2.ld (.n r137.2.next) 5).bind fun w298 =>
 (AV.asSl w298).bind fun l299 =>
 (r279.2.ld (.n r137.2.next) 6).bind fun w300 =>
 (AV.asSl w300).bind fun l301 =>
 (k111 [(.agg [(.sl l281.1 l281.2), (.sl l283.1 l283.2), (.sl l285.1 l285.2)]), (.i .i64 (IntKind.i64.wrap (n287 - 1))), (.agg [(.i .i64 n289), (.i .i64 n291), (.i .i64 n293), (.i .i64 n295), (.b b297), (.sl l299.1 l299.2), (.sl l301.1 l301.2)])] r279.2).bind fun r302 =>
 (AV.asAgg 3 r302.1).bind fun c303 =>
 (AV.asSl (c303.getD 0 .u)).bind fun l304 =>
 (AV.asSl (c303.getD 1 .u)).bind fun l305 =>
 (AV.asSl (c303.getD 2 .u)).bind fun l306 =>
 (r302.2.st (.n ((σ.next + 1) + 1)) 0 [(.sl l304.1 l304.2), (.sl l305.1 l305.2), (.sl l306.1 l306.2)]).bind fun σ307 =>
 (σ307.ld (.n ((σ.next + 1) + 1)) 0).bind fun w308 =>
 (AV.asSl w308).bind fun l309 =>
 (σ307.ld (.n ((σ.next + 1) + 1)) 1).bind fun w310 =>
 (AV.asSl w310).bind fun l311 =>
 (σ307.ld (.n ((σ.next + 1) + 1)) 2).bind fun w312 =>
 (AV.asSl w312).bind fun l313 =>
 some ((.tup [(.agg [(.sl l309.1 l309.2), (.sl l311.1 l311.2), (.sl l313.1 l313.2)]), (.i .i64 0)]), σ307))
 else none)))
 else (r129.2.ld (.n σ.next) 0).bind fun w314 =>
 (AV.asSl w314).bind fun l315 =>
 (r129.2.ld (.n σ.next) 1).bind fun w316 =>
 (AV.asSl w316).bind fun l317 =>
 (r129.2.ld (.n σ.next) 2).bind fun w318 =>
 (AV.asSl w318).bind fun l319 =>
 (r129.2.st (.n ((σ.next + 1) + 1)) 0 [(.sl l315.1 l315.2), (.sl l317.1 l317.2), (.sl l319.1 l319.2)]).bind fun σ320 =>
 (σ320.ld (.n ((σ.next + 1) + 1)) 0).bind fun w321 =>
 (AV.asSl w321).bind fun l322 =>
 (σ320.ld (.n ((σ.next + 1) + 1)) 1).bind fun w323 =>
 (AV.asSl w323).bind fun l324 =>
 (σ320.ld (.n ((σ.next + 1) + 1)) 2).bind fun w325 =>
 (AV.asSl w325).bind fun l326 =>
 some ((.tup [(.agg [(.sl l322.1 l322.2), (.sl l324.1 l324.2), (.sl l326.1 l326.2)]), (.i .i64 1)]), σ320)))))
 else none
noncomputable def haymowref47_one {O : Type} : Sm O := frz (haymowref47_one_c (fza haymowref47_with))
theorem haymowref47_one_ent : Entered Try.prog 83 := Try.call83
theorem haymowref47_one_run {O : Type} (k111 : Sm O) : run (O := O) Try.prog [(111, k111)] Try.f83 (.n .z (.n (.n .z (.n (.n .z (.n (.n (.n (.g [(3, 3, [(21, .one .b)])]) (.n .z .z)) (.n .z (.n (.n .z (.n (.lp false 1 [(6, .one .sl), (7, .one (.i .i64))] [(6, .one .sl)] (.n (.n .z .z) (.n (.n (.n .z (.j false [(6, .one .sl)] .z .z)) .z) .z))) .z)) (.n .z .z)))) (.n .z (.n (.n .z .z) (.n .z (.n (.n .z .z) (.n (.n .z (.j false [(61, .one .b)] .z (.n .z (.j false [(61, .one .b)] .z .z)))) (.n .z .z)))))))) .z)) (.n (.n (.g [(3, 6, [(75, .one .b)])]) (.n .z .z)) (.n (.n .z (.n .z .z)) (.n .z (.n (.n (.g [(3, 11, [(109, .one .b)]), (7, 6, [(108, .one .b)]), (16, 11, [(122, .one .b)]), (20, 6, [(121, .one .b)])]) (.n .z .z)) (.n (.n .z (.j false [] .z .z)) .z))))))) = haymowref47_one_c k111 := by kernel_rfl
theorem haymowref47_one_sound {O : Type} {RO : O → Loc → (Nat → Option Obj) → Prop} : FSound RO Try.prog 83 (haymowref47_one) :=
   have h : FSound RO Try.prog 83 (haymowref47_one_c (fza haymowref47_with)) := (haymowref47_one_run (fza haymowref47_with)) ▸ run_sound (gcons haymowref47_with_ent (haymowref47_with_sound).fza <| gnil) mixed Try.func83 (by kernel_rfl) _
   h.frz

/-- haymow/haymowref47.Apply -/
noncomputable def haymowref47_Apply_L1 {O : Type} (l4 : SA × Nat) (σ : AH O) (k83 : Sm O) : List AV × AH O → Option ((List AV × AH O) ⊕ ((List AV × AH O) ⊕ (AV × AH O))) := (fun r8 =>
 (AV.asI .i64 (r8.1.getD 0 .u)).bind fun n9 =>
 (bif (decide (n9 < (l4.2 : Int))) then
 (r8.2.ld (.n σ.next) 0).bind fun w10 =>
 (AV.asSl w10).bind fun l11 =>
 (r8.2.ld (.n σ.next) 1).bind fun w12 =>
 (AV.asSl w12).bind fun l13 =>
 (r8.2.ld (.n σ.next) 2).bind fun w14 =>
 (AV.asSl w14).bind fun l15 =>
 (bif ((decide ((0 : Int) ≤ n9)) && (decide (n9 < (l4.2 : Int)))) then
 (SA.ref l4.1).bind fun q16 =>
 (r8.2.ld q16.1 (q16.2 + (n9.toNat * 13))).bind fun w17 =>
 (AV.asI .i64 w17).bind fun n18 =>
 (r8.2.ld q16.1 ((q16.2 + (n9.toNat * 13)) + 1)).bind fun w19 =>
 (AV.asI .i64 w19).bind fun n20 =>
 (r8.2.ld q16.1 (((q16.2 + (n9.toNat * 13)) + 1) + 1)).bind fun w21 =>
 (AV.asI .i64 w21).bind fun n22 =>
 (r8.2.ld q16.1 ((((q16.2 + (n9.toNat * 13)) + 1) + 1) + 1)).bind fun w23 =>
 (AV.asI .i64 w23).bind fun n24 =>
 (r8.2.ld q16.1 (((((q16.2 + (n9.toNat * 13)) + 1) + 1) + 1) + 1)).bind fun w25 =>
 (AV.asI .u64 w25).bind fun n26 =>
 (r8.2.ld q16.1 ((((((q16.2 + (n9.toNat * 13)) + 1) + 1) + 1) + 1) + 1)).bind fun w27 =>
 (AV.asI .i64 w27).bind fun n28 =>
 (r8.2.ld q16.1 (((((((q16.2 + (n9.toNat * 13)) + 1) + 1) + 1) + 1) + 1) + 1)).bind fun w29 =>
 (AV.asI .i64 w29).bind fun n30 =>
 (r8.2.ld q16.1 ((((((((q16.2 + (n9.toNat * 13)) + 1) + 1) + 1) + 1) + 1) + 1) + 1)).bind fun w31 =>
 (AV.asI .i64 w31).bind fun n32 =>
 (r8.2.ld q16.1 (((((((((q16.2 + (n9.toNat * 13)) + 1) + 1) + 1) + 1) + 1) + 1) + 1) + 1)).bind fun w33 =>
 (AV.asI .i64 w33).bind fun n34 =>
 (r8.2.ld q16.1 ((((((((((q16.2 + (n9.toNat * 13)) + 1) + 1) + 1) + 1) + 1) + 1) + 1) + 1) + 1)).bind fun w35 =>
 (AV.asB w35).bind fun b36 =>
 (r8.2.ld q16.1 (((((((((((q16.2 + (n9.toNat * 13)) + 1) + 1) + 1) + 1) + 1) + 1) + 1) + 1) + 1) + 1)).bind fun w37 =>
 (AV.asSl w37).bind fun l38 =>
 (r8.2.ld q16.1 ((((((((((((q16.2 + (n9.toNat * 13)) + 1) + 1) + 1) + 1) + 1) + 1) + 1) + 1) + 1) + 1) + 1)).bind fun w39 =>
 (AV.asSl w39).bind fun l40 =>
 (r8.2.ld q16.1 (((((((((((((q16.2 + (n9.toNat * 13)) + 1) + 1) + 1) + 1) + 1) + 1) + 1) + 1) + 1) + 1) + 1) + 1)).bind fun w41 =>
 (AV.asSl w41).bind fun l42 =>
 (k83 [(.agg [(.sl l11.1 l11.2), (.sl l13.1 l13.2), (.sl l15.1 l15.2)]), (.agg [(.i .i64 n18), (.i .i64 n20), (.i .i64 n22), (.i .i64 n24), (.i .u64 n26), (.i .i64 n28), (.i .i64 n30), (.i .i64 n32), (.i .i64 n34), (.b b36), (.sl l38.1 l38.2), (.sl l40.1 l40.2), (.sl l42.1 l42.2)])] r8.2).bind fun r43 =>
 (AV.asTup 2 r43.1).bind fun c44 =>
 (AV.asAgg 3 (c44.getD 0 .u)).bind fun c45 =>
 (AV.asSl (c45.getD 0 .u)).bind fun l46 =>
 (AV.asSl (c45.getD 1 .u)).bind fun l47 =>
 (AV.asSl (c45.getD 2 .u)).bind fun l48 =>
 (AV.asI .i64 (c44.getD 1 .u)).bind fun n49 =>
 (r43.2.st (.n σ.next) 0 [(.sl l46.1 l46.2), (.sl l47.1 l47.2), (.sl l48.1 l48.2)]).bind fun σ50 =>
 (bif ((n49 : Int) != 0) then
 (σ50.st (.n (σ.next + 1)) 0 [(.sl .nil 0), (.sl .nil 0), (.sl .nil 0)]).bind fun σ51 =>
 (((σ51.ld (.n (σ.next + 1)) 0).bind fun w52 =>
 (AV.asSl w52).bind fun l53 =>
 (σ51.ld (.n (σ.next + 1)) 1).bind fun w54 =>
 (AV.asSl w54).bind fun l55 =>
 (σ51.ld (.n (σ.next + 1)) 2).bind fun w56 =>
 (AV.asSl w56).bind fun l57 =>
 some ((.tup [(.agg [(.sl l53.1 l53.2), (.sl l55.1 l55.2), (.sl l57.1 l57.2)]), (.i .i64 n9), (.i .i64 n49)]), σ51) : Option (AV × AH O)).map fun r => Sum.inr (Sum.inr r))
 else some (Sum.inl ([(.i .i64 (IntKind.i64.wrap (n9 + 1)))], σ50)))
 else none)
 else some (Sum.inr (Sum.inl ([], r8.2)))))
noncomputable def haymowref47_Apply_c {O : Type} (k83 : Sm O) : Sm O := fun xs σ =>
 bif Nat.beq xs.length 2 then
 (AV.asAgg 3 (xs.getD 0 .u)).bind fun c0 =>
 (AV.asSl (c0.getD 0 .u)).bind fun l1 =>
 (AV.asSl (c0.getD 1 .u)).bind fun l2 =>
 (AV.asSl (c0.getD 2 .u)).bind fun l3 =>
 (AV.asSl (xs.getD 1 .u)).bind fun l4 =>
 let σ5 := σ.bump 2
 let σ6 := σ5.put σ.next (.cells true 52 [(.sl l1.1 l1.2), (.sl l2.1 l2.2), (.sl l3.1 l3.2)])
 let σ7 := σ6.put (σ.next + 1) (.cells true 52 [(.sl .nil 0), (.sl .nil 0), (.sl .nil 0)])
 bindS (S := List AV × AH O) (R := (AV × AH O)) (loopF (S := List AV × AH O) (T := (List AV × AH O) ⊕ (AV × AH O)) (haymowref47_Apply_L1 l4 σ k83) ([(.i .i64 0)], σ7)) fun r58 =>
 (r58.2.ld (.n σ.next) 0).bind fun w59 =>
 (AV.asSl w59).bind fun l60 =>
 (r58.2.ld (.n σ.next) 1).bind fun w61 =>
 (AV.asSl w61).bind fun l62 =>
 (r58.2.ld (.n σ.next) 2).bind fun w63 =>
 (AV.asSl w63).bind fun l64 =>
 (r58.2.st (.n (σ.next + 1)) 0 [(.sl l60.1 l60.2), (.sl l62.1 l62.2), (.sl l64.1 l64.2)]).bind fun σ65 =>
 (σ65.ld (.n (σ.next + 1)) 0).bind fun w66 =>
 (AV.asSl w66).bind fun l67 =>
 (σ65.ld (.n (σ.next + 1)) 1).bind fun w68 =>
 (AV.asSl w68).bind fun l69 =>
 (σ65.ld (.n (σ.next + 1)) 2).bind fun w70 =>
 (AV.asSl w70).bind fun l71 =>
 some ((.tup [(.agg [(.sl l67.1 l67.2), (.sl l69.1 l69.2), (.sl l71.1 l71.2)]), (.i .i64 0), (.i .i64 0)]), σ65)
 else none
noncomputable def haymowref47_Apply {O : Type} : Sm O := frz (haymowref47_Apply_c haymowref47_one)
theorem haymowref47_Apply_ent : Entered Try.prog 45 := Try.call45
theorem haymowref47_Apply_run {O : Type} (k83 : Sm O) : run (O := O) Try.prog [(83, k83)] Try.f45 (.n .z (.n (.n .z (.n (.lp true 0 [(7, .one (.i .i64))] [] (.n (.n .z .z) (.n (.n (.n .z (.n (.d [] [0, 1, 2, 3, 4, 5, 6, 7, 8, 9, 10] [0, 0, 0, 6, 14, 31, 63, 127, 127, 255, 1023]) (.n .z (.n .z .z)))) .z) .z))) .z)) .z)) = haymowref47_Apply_c k83 := by kernel_rfl
theorem haymowref47_Apply_sound {O : Type} {RO : O → Loc → (Nat → Option Obj) → Prop} : FSound RO Try.prog 45 (haymowref47_Apply) :=
   have h : FSound RO Try.prog 45 (haymowref47_Apply_c haymowref47_one) := (haymowref47_Apply_run haymowref47_one) ▸ run_sound (gcons haymowref47_one_ent (haymowref47_one_sound) <| gnil) mixed Try.func45 (by kernel_rfl) _
   h.frz

/-- haymow/haymowlaw47.DiffApplies -/
noncomputable def law47_DiffApplies_L1 {O : Type} (l4 : SA × Nat) (k25 : Sm O) : List AV × AH O → Option ((List AV × AH O) ⊕ ((List AV × AH O) ⊕ (AV × AH O))) := (fun r19 =>
 (AV.asI .i64 (r19.1.getD 0 .u)).bind fun n20 =>
 (bif (decide (n20 < (l4.2 : Int))) then
 let σ21 := r19.2.bump 1
 (bif ((decide ((0 : Int) ≤ n20)) && (decide (n20 < (l4.2 : Int)))) then
 (SA.ref l4.1).bind fun q22 =>
 (σ21.ld q22.1 (q22.2 + (n20.toNat * 13))).bind fun w23 =>
 (AV.asI .i64 w23).bind fun n24 =>
 ((bif (((n24 : Int) == 0) == true) then
 (bif ((decide ((0 : Int) ≤ n20)) && (decide (n20 < (l4.2 : Int)))) then
 (SA.ref l4.1).bind fun q25 =>
 (σ21.ld q25.1 ((q25.2 + (n20.toNat * 13)) + 3)).bind fun w26 =>
 (AV.asI .i64 w26).bind fun n27 =>
 some ([(.b (decide (n27 > 100)))], σ21)
 else none)
 else some ([(.b false)], σ21)) : Option (List AV × AH O)).bind fun r28 =>
 (AV.asB (r28.1.getD 0 .u)).bind fun b29 =>
 ((bif (b29 == true) then
 (bif ((decide ((0 : Int) ≤ n20)) && (decide (n20 < (l4.2 : Int)))) then
 (SA.ref l4.1).bind fun q30 =>
 (r28.2.ld q30.1 ((q30.2 + (n20.toNat * 13)) + 3)).bind fun w31 =>
 (AV.asI .i64 w31).bind fun n32 =>
 some ([(.b (decide (n32 ≤ 1048576)))], r28.2)
 else none)
 else some ([(.b false)], r28.2)) : Option (List AV × AH O)).bind fun r33 =>
 (AV.asB (r33.1.getD 0 .u)).bind fun b34 =>
 ((bif (b34 == false) then
 (bif ((decide ((0 : Int) ≤ n20)) && (decide (n20 < (l4.2 : Int)))) then
 (SA.ref l4.1).bind fun q35 =>
 (r33.2.ld q35.1 ((q35.2 + (n20.toNat * 13)) + 12)).bind fun w36 =>
 (AV.asSl w36).bind fun l37 =>
 some ([(.b (decide ((l37.2 : Int) > 30)))], r33.2)
 else none)
 else some ([(.b true)], r33.2)) : Option (List AV × AH O)).bind fun r38 =>
 (AV.asB (r38.1.getD 0 .u)).bind fun b39 =>
 ((bif (b39 == false) then
 (bif ((decide ((0 : Int) ≤ n20)) && (decide (n20 < (l4.2 : Int)))) then
 (SA.ref l4.1).bind fun q40 =>
 (r38.2.ld q40.1 ((q40.2 + (n20.toNat * 13)) + 5)).bind fun w41 =>
 (AV.asI .i64 w41).bind fun n42 =>
 (r38.2.ld q40.1 (((q40.2 + (n20.toNat * 13)) + 5) + 1)).bind fun w43 =>
 (AV.asI .i64 w43).bind fun n44 =>
 (r38.2.ld q40.1 ((((q40.2 + (n20.toNat * 13)) + 5) + 1) + 1)).bind fun w45 =>
 (AV.asI .i64 w45).bind fun n46 =>
 (r38.2.ld q40.1 (((((q40.2 + (n20.toNat * 13)) + 5) + 1) + 1) + 1)).bind fun w47 =>
 (AV.asI .i64 w47).bind fun n48 =>
 (r38.2.ld q40.1 ((((((q40.2 + (n20.toNat * 13)) + 5) + 1) + 1) + 1) + 1)).bind fun w49 =>
 (AV.asB w49).bind fun b50 =>
 (r38.2.ld q40.1 (((((((q40.2 + (n20.toNat * 13)) + 5) + 1) + 1) + 1) + 1) + 1)).bind fun w51 =>
 (AV.asSl w51).bind fun l52 =>
 (r38.2.ld q40.1 ((((((((q40.2 + (n20.toNat * 13)) + 5) + 1) + 1) + 1) + 1) + 1) + 1)).bind fun w53 =>
 (AV.asSl w53).bind fun l54 =>
 let σ55 := r38.2.put r19.2.next (.cells true 74 [(.i .i64 n42), (.i .i64 n44), (.i .i64 n46), (.i .i64 n48), (.b b50), (.sl l52.1 l52.2), (.sl l54.1 l54.2)])
 (k25 [(.agg [(.sl (.loc (.n r19.2.next) 0 7) 1), (.sl .nil 0), (.sl .nil 0)])] σ55).bind fun r56 =>
 (AV.asB r56.1).bind fun b57 =>
 some ([(.b (!b57))], r56.2)
 else none)
 else some ([(.b true)], r38.2)) : Option (List AV × AH O)).bind fun r58 =>
 (AV.asB (r58.1.getD 0 .u)).bind fun b59 =>
 (bif b59 then
 ((some ((.b true), r58.2) : Option (AV × AH O)).map fun r => Sum.inr (Sum.inr r))
 else some (Sum.inl ([(.i .i64 (IntKind.i64.wrap (n20 + 1)))], r58.2)))
 else none)
 else some (Sum.inr (Sum.inl ([], r19.2)))))
noncomputable def law47_DiffApplies_c {O : Type} (k24 k25 k35 k40 k26 k46 k45 k32 k43 k44 k42 : Sm O) : Sm O := fun xs σ =>
 bif Nat.beq xs.length 2 then
 (AV.asAgg 3 (xs.getD 0 .u)).bind fun c0 =>
 (AV.asSl (c0.getD 0 .u)).bind fun l1 =>
 (AV.asSl (c0.getD 1 .u)).bind fun l2 =>
 (AV.asSl (c0.getD 2 .u)).bind fun l3 =>
 (AV.asSl (xs.getD 1 .u)).bind fun l4 =>
 let σ5 := σ.bump 1
 let σ6 := σ5.put σ.next (.cells true 39 [(.sl l1.1 l1.2), (.sl l2.1 l2.2), (.sl l3.1 l3.2)])
 (k24 [] σ6).bind fun r7 =>
 (AV.asB r7.1).bind fun b8 =>
 (bif (!b8) then
 some ((.b false), r7.2)
 else (r7.2.ld (.n σ.next) 0).bind fun w9 =>
 (AV.asSl w9).bind fun l10 =>
 (r7.2.ld (.n σ.next) 1).bind fun w11 =>
 (AV.asSl w11).bind fun l12 =>
 (r7.2.ld (.n σ.next) 2).bind fun w13 =>
 (AV.asSl w13).bind fun l14 =>
 (k25 [(.agg [(.sl l10.1 l10.2), (.sl l12.1 l12.2), (.sl l14.1 l14.2)])] r7.2).bind fun r15 =>
 (AV.asB r15.1).bind fun b16 =>
 ((bif ((!b16) == false) then
 some ([(.b (decide ((l4.2 : Int) > 20)))], r15.2)
 else some ([(.b true)], r15.2)) : Option (List AV × AH O)).bind fun r17 =>
 (AV.asB (r17.1.getD 0 .u)).bind fun b18 =>
 (bif b18 then
 some ((.b true), r17.2)
 else bindS (S := List AV × AH O) (R := (AV × AH O)) (loopF (S := List AV × AH O) (T := (List AV × AH O) ⊕ (AV × AH O)) (law47_DiffApplies_L1 l4 k25) ([(.i .i64 0)], r17.2)) fun r60 =>
 (r60.2.ld (.n σ.next) 0).bind fun w61 =>
 (AV.asSl w61).bind fun l62 =>
 (r60.2.ld (.n σ.next) 1).bind fun w63 =>
 (AV.asSl w63).bind fun l64 =>
 (r60.2.ld (.n σ.next) 2).bind fun w65 =>
 (AV.asSl w65).bind fun l66 =>
 (k35 [(.agg [(.sl l62.1 l62.2), (.sl l64.1 l64.2), (.sl l66.1 l66.2)])] r60.2).bind fun r67 =>
 (AV.asAgg 3 r67.1).bind fun c68 =>
 (AV.asSl (c68.getD 0 .u)).bind fun l69 =>
 (AV.asSl (c68.getD 1 .u)).bind fun l70 =>
 (AV.asSl (c68.getD 2 .u)).bind fun l71 =>
 (k40 [(.agg [(.sl .nil 0), (.sl .nil 0), (.sl .nil 0)]), (.agg [(.sl l69.1 l69.2), (.sl l70.1 l70.2), (.sl l71.1 l71.2)])] r67.2).bind fun r72 =>
 (AV.asSl r72.1).bind fun l73 =>
 let σ74 := r72.2.bump 1
 (σ74.ld (.n σ.next) 0).bind fun w75 =>
 (AV.asSl w75).bind fun l76 =>
 (σ74.ld (.n σ.next) 1).bind fun w77 =>
 (AV.asSl w77).bind fun l78 =>
 (σ74.ld (.n σ.next) 2).bind fun w79 =>
 (AV.asSl w79).bind fun l80 =>
 (k26 [(.agg [(.sl l76.1 l76.2), (.sl l78.1 l78.2), (.sl l80.1 l80.2)]), (.sl l4.1 l4.2)] σ74).bind fun r81 =>
 (AV.asTup 3 r81.1).bind fun c82 =>
 (AV.asAgg 3 (c82.getD 0 .u)).bind fun c83 =>
 (AV.asSl (c83.getD 0 .u)).bind fun l84 =>
 (AV.asSl (c83.getD 1 .u)).bind fun l85 =>
 (AV.asSl (c83.getD 2 .u)).bind fun l86 =>
 (AV.asI .i64 (c82.getD 1 .u)).bind fun n87 =>
 (AV.asI .i64 (c82.getD 2 .u)).bind fun n88 =>
 let σ89 := r81.2.put r72.2.next (.cells true 39 [(.sl .nil 0), (.sl .nil 0), (.sl .nil 0)])
 (σ89.st (.n r72.2.next) 0 [(.sl l84.1 l84.2), (.sl l85.1 l85.2), (.sl l86.1 l86.2)]).bind fun σ90 =>
 let σ91 := σ90.bump 1
 (σ91.ld (.n σ.next) 0).bind fun w92 =>
 (AV.asSl w92).bind fun l93 =>
 (σ91.ld (.n σ.next) 1).bind fun w94 =>
 (AV.asSl w94).bind fun l95 =>
 (σ91.ld (.n σ.next) 2).bind fun w96 =>
 (AV.asSl w96).bind fun l97 =>
 (k35 [(.agg [(.sl l93.1 l93.2), (.sl l95.1 l95.2), (.sl l97.1 l97.2)])] σ91).bind fun r98 =>
 (AV.asAgg 3 r98.1).bind fun c99 =>
 (AV.asSl (c99.getD 0 .u)).bind fun l100 =>
 (AV.asSl (c99.getD 1 .u)).bind fun l101 =>
 (AV.asSl (c99.getD 2 .u)).bind fun l102 =>
 (k46 [(.sl l4.1 l4.2)] r98.2).bind fun r103 =>
 (AV.asSl r103.1).bind fun l104 =>
 (k45 [(.agg [(.sl l100.1 l100.2), (.sl l101.1 l101.2), (.sl l102.1 l102.2)]), (.sl l104.1 l104.2)] r103.2).bind fun r105 =>
 (AV.asTup 3 r105.1).bind fun c106 =>
 (AV.asAgg 3 (c106.getD 0 .u)).bind fun c107 =>
 (AV.asSl (c107.getD 0 .u)).bind fun l108 =>
 (AV.asSl (c107.getD 1 .u)).bind fun l109 =>
 (AV.asSl (c107.getD 2 .u)).bind fun l110 =>
 (AV.asI .i64 (c106.getD 1 .u)).bind fun n111 =>
 (AV.asI .i64 (c106.getD 2 .u)).bind fun n112 =>
 let σ113 := r105.2.put σ90.next (.cells true 52 [(.sl .nil 0), (.sl .nil 0), (.sl .nil 0)])
 (σ113.st (.n σ90.next) 0 [(.sl l108.1 l108.2), (.sl l109.1 l109.2), (.sl l110.1 l110.2)]).bind fun σ114 =>
 (σ114.ld (.n σ.next) 0).bind fun w115 =>
 (AV.asSl w115).bind fun l116 =>
 (σ114.ld (.n σ.next) 1).bind fun w117 =>
 (AV.asSl w117).bind fun l118 =>
 (σ114.ld (.n σ.next) 2).bind fun w119 =>
 (AV.asSl w119).bind fun l120 =>
 (k35 [(.agg [(.sl l116.1 l116.2), (.sl l118.1 l118.2), (.sl l120.1 l120.2)])] σ114).bind fun r121 =>
 (AV.asAgg 3 r121.1).bind fun c122 =>
 (AV.asSl (c122.getD 0 .u)).bind fun l123 =>
 (AV.asSl (c122.getD 1 .u)).bind fun l124 =>
 (AV.asSl (c122.getD 2 .u)).bind fun l125 =>
 (k40 [(.agg [(.sl .nil 0), (.sl .nil 0), (.sl .nil 0)]), (.agg [(.sl l123.1 l123.2), (.sl l124.1 l124.2), (.sl l125.1 l125.2)])] r121.2).bind fun r126 =>
 (AV.asSl r126.1).bind fun l127 =>
 ((bif ((((l73.2 : Int) : Int) != (l127.2 : Int)) == false) then
 some ([(.b ((n87 : Int) != n111))], r126.2)
 else some ([(.b true)], r126.2)) : Option (List AV × AH O)).bind fun r128 =>
 (AV.asB (r128.1.getD 0 .u)).bind fun b129 =>
 ((bif (b129 == false) then
 some ([(.b ((n88 : Int) != n112))], r128.2)
 else some ([(.b true)], r128.2)) : Option (List AV × AH O)).bind fun r130 =>
 (AV.asB (r130.1.getD 0 .u)).bind fun b131 =>
 ((bif (b131 == false) then
 (r130.2.ld (.n r72.2.next) 0).bind fun w132 =>
 (AV.asSl w132).bind fun l133 =>
 (r130.2.ld (.n r72.2.next) 1).bind fun w134 =>
 (AV.asSl w134).bind fun l135 =>
 (r130.2.ld (.n r72.2.next) 2).bind fun w136 =>
 (AV.asSl w136).bind fun l137 =>
 (r130.2.ld (.n σ90.next) 0).bind fun w138 =>
 (AV.asSl w138).bind fun l139 =>
 (r130.2.ld (.n σ90.next) 1).bind fun w140 =>
 (AV.asSl w140).bind fun l141 =>
 (r130.2.ld (.n σ90.next) 2).bind fun w142 =>
 (AV.asSl w142).bind fun l143 =>
 (k32 [(.agg [(.sl l133.1 l133.2), (.sl l135.1 l135.2), (.sl l137.1 l137.2)]), (.agg [(.sl l139.1 l139.2), (.sl l141.1 l141.2), (.sl l143.1 l143.2)])] r130.2).bind fun r144 =>
 (AV.asB r144.1).bind fun b145 =>
 some ([(.b (!b145))], r144.2)
 else some ([(.b true)], r130.2)) : Option (List AV × AH O)).bind fun r146 =>
 (AV.asB (r146.1.getD 0 .u)).bind fun b147 =>
 (bif b147 then
 some ((.b false), r146.2)
 else (k43 [(.sl l4.1 l4.2)] r146.2).bind fun r148 =>
 (AV.asSl r148.1).bind fun l149 =>
 (k46 [(.sl l4.1 l4.2)] r148.2).bind fun r150 =>
 (AV.asSl r150.1).bind fun l151 =>
 (k44 [(.sl l151.1 l151.2)] r150.2).bind fun r152 =>
 (AV.asSl r152.1).bind fun l153 =>
 (k42 [(.sl l149.1 l149.2), (.sl l153.1 l153.2)] r152.2).bind fun r154 =>
 (AV.asB r154.1).bind fun b155 =>
 some ((.b b155), r154.2))))
 else none
noncomputable def law47_DiffApplies {O : Type} : Sm O := law47_DiffApplies_c law47_awake (fza law47_few) law40_Ref haymowref47_Of diff_Apply law47_refs haymowref47_Apply law40_Is diff_Touched haymowref47_Touched haymowref02_Same
theorem law47_DiffApplies_ent : Entered Try.prog 9 := Try.call9
theorem law47_DiffApplies_run {O : Type} (k24 k25 k35 k40 k26 k46 k45 k32 k43 k44 k42 : Sm O) : run (O := O) Try.prog [(24, k24), (25, k25), (35, k35), (40, k40), (26, k26), (46, k46), (45, k45), (32, k32), (43, k43), (44, k44), (42, k42)] Try.f9 (.n .z (.n (.n .z (.n .z .z)) (.n (.n (.g [(3, 3, [(23, .one .b)])]) (.n .z .z)) (.n (.n .z (.n (.lp true 0 [(5, .one (.i .i64))] [] (.n (.n .z .z) (.n (.n (.n (.g [(6, 6, [(43, .one .b)]), (14, 6, [(51, .one .b)]), (22, 7, [(60, .one .b)]), (31, 9, [(71, .one .b)])]) (.n .z .z)) .z) .z))) .z)) (.n .z (.n .z (.n .z (.n .z (.n (.n (.g [(5, 3, [(105, .one .b)]), (10, 3, [(110, .one .b)]), (15, 4, [(116, .one .b)])]) (.n .z .z)) .z))))))))) = law47_DiffApplies_c k24 k25 k35 k40 k26 k46 k45 k32 k43 k44 k42 := by kernel_rfl
theorem law47_DiffApplies_sound {O : Type} {RO : O → Loc → (Nat → Option Obj) → Prop} : FSound RO Try.prog 9 (law47_DiffApplies) :=
   have h : FSound RO Try.prog 9 (law47_DiffApplies_c law47_awake (fza law47_few) law40_Ref haymowref47_Of diff_Apply law47_refs haymowref47_Apply law40_Is diff_Touched haymowref47_Touched haymowref02_Same) := (law47_DiffApplies_run law47_awake (fza law47_few) law40_Ref haymowref47_Of diff_Apply law47_refs haymowref47_Apply law40_Is diff_Touched haymowref47_Touched haymowref02_Same) ▸ run_sound (gcons law47_awake_ent (law47_awake_sound) <| gcons law47_few_ent (law47_few_sound).fza <| gcons law40_Ref_ent (law40_Ref_sound) <| gcons haymowref47_Of_ent (haymowref47_Of_sound) <| gcons diff_Apply_ent (diff_Apply_sound) <| gcons law47_refs_ent (law47_refs_sound) <| gcons haymowref47_Apply_ent (haymowref47_Apply_sound) <| gcons law40_Is_ent (law40_Is_sound) <| gcons diff_Touched_ent (diff_Touched_sound) <| gcons haymowref47_Touched_ent (haymowref47_Touched_sound) <| gcons haymowref02_Same_ent (haymowref02_Same_sound) <| gnil) mixed Try.func9 (by kernel_rfl) _
   h

end Go.Abs.Try
