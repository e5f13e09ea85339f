/-
  What functions of Go's library do: by the contracts of the shelf. No conditions.
-/
import Derived.Test.YtgddikandbkmpaaDoorAbsExtern
import Derived.Test.YtgddikandbkmpaaDoorT1
import Derived.Shelf.Strings.Builder1
import Derived.Shelf.Strings.OnBuilder
import Derived.Shelf.Strings.BuilderK
import Derived.Shelf.Strings.Search1
import Derived.Shelf.Strings.Search3
import Derived.Shelf.Strings.Split
import Derived.Lib.IndexBytes
import Derived.Test.YtgddikandbkmpaaDoorProg
import Derived.KernelRfl
set_option linter.unusedVariables false
set_option linter.unusedSimpArgs false
set_option linter.constructorNameAsVariable false
set_option maxRecDepth 1000000
set_option linter.unusedVariables false
set_option linter.unusedSimpArgs false
namespace Go.Proofs
open Go.Shelf
def Tryd.lays169_ren : Go.Shelf.Ren := ⟨fun | 169 => 19 | n => n, fun | 70 => 51 | 9 => 9 | 0 => 0 | 72 => 54 | 37 => 52 | 127 => 86 | 3 => 3 | 5 => 5 | n => n, fun | n => n⟩
theorem Tryd.lays169 : Go.Proofs.Lays.n169 Tryd.prog Tryd.lays169_ren := {
 mixed := by kernel_rfl
 f169 := Tryd.func19.trans (congrArg some (by kernel_rfl))
 t0 := Tryd.underlying0
 a0 := Tryd.isAgg0
 z0 := Tryd.sizeOf0
 v0 := Tryd.zeroValue0
 t3 := Tryd.underlying3
 a3 := Tryd.isAgg3
 z3 := Tryd.sizeOf3
 v3 := Tryd.zeroValue3
 t9 := Tryd.underlying9
 a9 := Tryd.isAgg9
 z9 := Tryd.sizeOf9
 v9 := Tryd.zeroValue9
 t37 := Tryd.underlying52
 a37 := Tryd.isAgg52
 z37 := Tryd.sizeOf52
 v37 := Tryd.zeroValue52
 t70 := Tryd.underlying51
 a70 := Tryd.isAgg51
 z70 := Tryd.sizeOf51
 v70 := Tryd.zeroValue51
 t72 := Tryd.underlying54
 a72 := Tryd.isAgg54
 z72 := Tryd.sizeOf54
 v72 := Tryd.zeroValue54
 t127 := Tryd.underlying86
 a127 := Tryd.isAgg86
 z127 := Tryd.sizeOf86
 v127 := Tryd.zeroValue86 }
theorem Tryd.Builder_Extra_169 : Builder.Extra Tryd.prog Tryd.lays169_ren := {
 sizeBuilder := by kernel_rfl
 liesBuilder := by kernel_rfl
 t5 := Tryd.underlying5
 a5 := Tryd.isAgg5
 z5 := Tryd.sizeOf5
 v5 := Tryd.zeroValue5
 infoByte := by kernel_rfl
 cellsByte := by kernel_rfl
 sizeByte := by kernel_rfl
 neB5 := by decide }
def Tryd.lays156_ren : Go.Shelf.Ren := ⟨fun | 156 => 39 | 165 => 53 | 166 => 15 | 169 => 19 | 240 => 36 | 241 => 60 | 276 => 52 | 277 => 68 | n => n, fun | 31 => 64 | 9 => 9 | 3 => 3 | 4 => 4 | 0 => 0 | 20 => 20 | 72 => 54 | 76 => 57 | 70 => 51 | 37 => 52 | 75 => 56 | 127 => 86 | 164 => 97 | 5 => 5 | 80 => 62 | n => n, fun | n => n⟩
theorem Tryd.lays156 : Go.Proofs.Lays.n156 Tryd.prog Tryd.lays156_ren := {
 mixed := by kernel_rfl
 f156 := Tryd.func39.trans (congrArg some (by kernel_rfl))
 f165 := Tryd.func53.trans (congrArg some (by kernel_rfl))
 f166 := Tryd.func15.trans (congrArg some (by kernel_rfl))
 f169 := Tryd.func19.trans (congrArg some (by kernel_rfl))
 f240 := Tryd.func36.trans (congrArg some (by kernel_rfl))
 f241 := Tryd.func60.trans (congrArg some (by kernel_rfl))
 f276 := Tryd.func52.trans (congrArg some (by kernel_rfl))
 f277 := Tryd.func68.trans (congrArg some (by kernel_rfl))
 t0 := Tryd.underlying0
 a0 := Tryd.isAgg0
 z0 := Tryd.sizeOf0
 v0 := Tryd.zeroValue0
 t3 := Tryd.underlying3
 a3 := Tryd.isAgg3
 z3 := Tryd.sizeOf3
 v3 := Tryd.zeroValue3
 t4 := Tryd.underlying4
 a4 := Tryd.isAgg4
 z4 := Tryd.sizeOf4
 v4 := Tryd.zeroValue4
 t9 := Tryd.underlying9
 a9 := Tryd.isAgg9
 z9 := Tryd.sizeOf9
 v9 := Tryd.zeroValue9
 t20 := Tryd.underlying20
 a20 := Tryd.isAgg20
 z20 := Tryd.sizeOf20
 v20 := Tryd.zeroValue20
 t31 := Tryd.underlying64
 a31 := Tryd.isAgg64
 z31 := Tryd.sizeOf64
 v31 := Tryd.zeroValue64
 t37 := Tryd.underlying52
 a37 := Tryd.isAgg52
 z37 := Tryd.sizeOf52
 v37 := Tryd.zeroValue52
 t70 := Tryd.underlying51
 a70 := Tryd.isAgg51
 z70 := Tryd.sizeOf51
 v70 := Tryd.zeroValue51
 t72 := Tryd.underlying54
 a72 := Tryd.isAgg54
 z72 := Tryd.sizeOf54
 v72 := Tryd.zeroValue54
 t75 := Tryd.underlying56
 a75 := Tryd.isAgg56
 z75 := Tryd.sizeOf56
 v75 := Tryd.zeroValue56
 t76 := Tryd.underlying57
 a76 := Tryd.isAgg57
 z76 := Tryd.sizeOf57
 v76 := Tryd.zeroValue57
 t127 := Tryd.underlying86
 a127 := Tryd.isAgg86
 z127 := Tryd.sizeOf86
 v127 := Tryd.zeroValue86
 t164 := Tryd.underlying97
 a164 := Tryd.isAgg97
 z164 := Tryd.sizeOf97
 v164 := Tryd.zeroValue97 }
theorem Tryd.Builder_Extra_156 : Builder.Extra Tryd.prog Tryd.lays156_ren := {
 sizeBuilder := by kernel_rfl
 liesBuilder := by kernel_rfl
 t5 := Tryd.underlying5
 a5 := Tryd.isAgg5
 z5 := Tryd.sizeOf5
 v5 := Tryd.zeroValue5
 infoByte := by kernel_rfl
 cellsByte := by kernel_rfl
 sizeByte := by kernel_rfl
 neB5 := by decide }
def Tryd.lays217_ren : Go.Shelf.Ren := ⟨fun | 217 => 70 | 266 => 75 | n => n, fun | 9 => 9 | 5 => 5 | 3 => 3 | n => n, fun | n => n⟩
theorem Tryd.lays217 : Go.Proofs.Lays.n217 Tryd.prog Tryd.lays217_ren := {
 mixed := by kernel_rfl
 f217 := Tryd.func70.trans (congrArg some (by kernel_rfl))
 f266 := Tryd.func75.trans (congrArg some (by kernel_rfl))
 t3 := Tryd.underlying3
 a3 := Tryd.isAgg3
 z3 := Tryd.sizeOf3
 v3 := Tryd.zeroValue3
 t5 := Tryd.underlying5
 a5 := Tryd.isAgg5
 z5 := Tryd.sizeOf5
 v5 := Tryd.zeroValue5
 t9 := Tryd.underlying9
 a9 := Tryd.isAgg9
 z9 := Tryd.sizeOf9
 v9 := Tryd.zeroValue9 }
def Tryd.lays146_ren : Go.Shelf.Ren := ⟨fun | 146 => 21 | 221 => 41 | 268 => 54 | 138 => 55 | 143 => 56 | 195 => 61 | 197 => 62 | 218 => 63 | 219 => 64 | 260 => 69 | 217 => 70 | 225 => 71 | 224 => 72 | 267 => 73 | 266 => 75 | 314 => 76 | n => n, fun | 9 => 9 | 31 => 64 | 3 => 3 | 4 => 4 | 0 => 0 | 105 => 110 | 21 => 21 | 5 => 5 | 46 => 114 | 119 => 117 | 139 => 120 | 138 => 119 | 146 => 122 | 51 => 121 | n => n, fun | 1 => 0 | 3 => 1 | 4 => 2 | n => n⟩
theorem Tryd.lays146 : Go.Proofs.Lays.n146 Tryd.prog Tryd.lays146_ren := {
 mixed := by kernel_rfl
 f138 := Tryd.func55.trans (congrArg some (by kernel_rfl))
 f143 := Tryd.func56.trans (congrArg some (by kernel_rfl))
 f146 := Tryd.func21.trans (congrArg some (by kernel_rfl))
 f195 := Tryd.func61.trans (congrArg some (by kernel_rfl))
 f197 := Tryd.func62.trans (congrArg some (by kernel_rfl))
 f217 := Tryd.func70.trans (congrArg some (by kernel_rfl))
 f218 := Tryd.func63.trans (congrArg some (by kernel_rfl))
 f219 := Tryd.func64.trans (congrArg some (by kernel_rfl))
 f221 := Tryd.func41.trans (congrArg some (by kernel_rfl))
 f224 := Tryd.func72.trans (congrArg some (by kernel_rfl))
 f225 := Tryd.func71.trans (congrArg some (by kernel_rfl))
 f260 := Tryd.func69.trans (congrArg some (by kernel_rfl))
 f266 := Tryd.func75.trans (congrArg some (by kernel_rfl))
 f267 := Tryd.func73.trans (congrArg some (by kernel_rfl))
 f268 := Tryd.func54.trans (congrArg some (by kernel_rfl))
 f314 := Tryd.func76.trans (congrArg some (by kernel_rfl))
 t0 := Tryd.underlying0
 a0 := Tryd.isAgg0
 z0 := Tryd.sizeOf0
 v0 := Tryd.zeroValue0
 t3 := Tryd.underlying3
 a3 := Tryd.isAgg3
 z3 := Tryd.sizeOf3
 v3 := Tryd.zeroValue3
 t4 := Tryd.underlying4
 a4 := Tryd.isAgg4
 z4 := Tryd.sizeOf4
 v4 := Tryd.zeroValue4
 t5 := Tryd.underlying5
 a5 := Tryd.isAgg5
 z5 := Tryd.sizeOf5
 v5 := Tryd.zeroValue5
 t9 := Tryd.underlying9
 a9 := Tryd.isAgg9
 z9 := Tryd.sizeOf9
 v9 := Tryd.zeroValue9
 t21 := Tryd.underlying21
 a21 := Tryd.isAgg21
 z21 := Tryd.sizeOf21
 v21 := Tryd.zeroValue21
 t31 := Tryd.underlying64
 a31 := Tryd.isAgg64
 z31 := Tryd.sizeOf64
 v31 := Tryd.zeroValue64
 t46 := Tryd.underlying114
 a46 := Tryd.isAgg114
 z46 := Tryd.sizeOf114
 v46 := Tryd.zeroValue114
 t51 := Tryd.underlying121
 a51 := Tryd.isAgg121
 z51 := Tryd.sizeOf121
 v51 := Tryd.zeroValue121
 t105 := Tryd.underlying110
 a105 := Tryd.isAgg110
 z105 := Tryd.sizeOf110
 v105 := Tryd.zeroValue110
 t119 := Tryd.underlying117
 a119 := Tryd.isAgg117
 z119 := Tryd.sizeOf117
 t138 := Tryd.underlying119
 a138 := Tryd.isAgg119
 z138 := Tryd.sizeOf119
 v138 := Tryd.zeroValue119
 t139 := Tryd.underlying120
 a139 := Tryd.isAgg120
 z139 := Tryd.sizeOf120
 v139 := Tryd.zeroValue120
 t146 := Tryd.underlying122
 a146 := Tryd.isAgg122
 z146 := Tryd.sizeOf122
 v146 := Tryd.zeroValue122
 g1 := by kernel_rfl
 g3 := by kernel_rfl
 g4 := by kernel_rfl }
section
open Go.RowKit Go.Lib
variable {P : Program} {ρ : Ren}
set_option maxHeartbeats 1000000 in
theorem Any.split1 (L : Lays.n146 P ρ) (hi9 : (P.info? (ρ.t 9)).map (fun i => (i.zero, i.size, i.bytes)) = some (some (.string ByteArray.empty), 1, 16)) (s : ByteArray) (c : UInt8) (w : World) (hs : s.size < 4294967281) :
  Calls P (ρ.f 146) #[.string s, .string ⟨#[c]⟩] w fun e w' =>
   e = .returned (.slice (some ⟨w.heap.size, 0, none⟩) (Lib.countB s ⟨#[c]⟩ + 1) (Lib.countB s ⟨#[c]⟩ + 1)) ∧ w' = w.alloc (.cells ((Lib.splitB ⟨#[c]⟩ 0 (Lib.countB s ⟨#[c]⟩) s).map Value.string).toArray (ρ.t 9)) := by
 have h1 : 1 ≤ (⟨#[c]⟩ : ByteArray).size := Nat.le_refl 1
 have hle := Lib.countB_le ⟨#[c]⟩ h1 s.size s (Nat.le_refl _)
 have hlen := Lib.splitB_all ⟨#[c]⟩ h1 0 _ s rfl
 have cI : ∀ (x : ByteArray) (d : Array Value), x.size ≤ s.size → Calls P (ρ.f 143) #[.string x, .string ⟨#[c]⟩] (w.alloc (.cells d (ρ.t 9))) fun e w' => e = .returned (.int .i64 (Lib.indexB x ⟨#[c]⟩)) ∧ w' = w.alloc (.cells d (ρ.t 9)) := fun x d _ =>
  (Any.strings_Index_one { L with } x c _).mono fun e w' ⟨he, hw⟩ => ⟨by rw [he, ← Lib.index_one], hw⟩
 have cC : Calls P (ρ.f 138) #[.string s, .string ⟨#[c]⟩] w fun e w' => e = .returned (.int .i64 (Lib.countB s ⟨#[c]⟩)) ∧ w' = w :=
  (Any.strings_Count_one { L with } s c w).mono fun e w' ⟨he, hw⟩ => ⟨by rw [he]; show _ = Ending.returned (Value.int .i64 ((Lib.count s.data.toList [c] : Nat) : Int)); rw [Lib.count_one]; rfl, hw⟩
 have cc := Any.strings_genSplit_core { L with } hi9 s ⟨#[c]⟩ 0 (-1) (Lib.countB s ⟨#[c]⟩ + 1) w hs h1 (Nat.zero_le _) cI cC (by decide) (by decide) (by rw [if_pos (by decide)]; omega)
 rw [Nat.add_sub_cancel, hlen] at cc
 have e2 : Lib.cellsOf (Lib.splitB ⟨#[c]⟩ 0 (Lib.countB s ⟨#[c]⟩) s) (Lib.countB s ⟨#[c]⟩ + 1) = ((Lib.splitB ⟨#[c]⟩ 0 (Lib.countB s ⟨#[c]⟩) s).map Value.string).toArray := by rw [← hlen]; exact Lib.cellsOf_full _
 rw [e2] at cc
 have t3 := L.t3; have t9 := L.t9; have t31 := L.t31
 have a3 := L.a3; have a9 := L.a9; have a31 := L.a31
 have z3 := L.z3; have v3 := L.v3; have z9 := L.z9; have v9 := L.v9; have z31 := L.z31; have v31 := L.v31
 have e221 : ∀ args w, (callFunc (ρ.f 221) args).run P w = .ok (.enter (ρ.f 221) args) w := enters_of L.f221 (by kernel_rfl) rfl
 clear cI cC
 go_enter L.f146, Body.n146_ntmps ρ
 go_wp2_with (go_at_fn (ρ.f 221); refine cc.mono ?_; rintro e w' ⟨rfl, hw⟩; rw [hw])
 go_ret
 exact ⟨rfl, rfl⟩
theorem liesAt_off {e : TypeId} (hc : P.cellsOf e = 1) (count off n : Nat) (hn : off + n ≤ count) : liesAt P P.depth e count off e n = true := by
 have hd : P.depth = (2 * (P.types.size + Made.depth) + 1) + 1 := rfl
 rw [hd]
 simp only [liesAt, Bool.or_eq_true]
 left
 rw [hd]
 simp [rowAt, hc, hn, sameLayout, Nat.mod_one]
theorem run_unsafeString_off (w : World) (pt it ty e : TypeId) (hp : P.underlying pt = some (.pointer e)) (hc : P.cellsOf e = 1) (g off cells : Nat) (hsh : w.shape? g = some (e, cells)) (l : List UInt8) (h0 : l ≠ []) (hn : off + l.length ≤ cells) (h63 : l.length ≤ 9223372036854775807)
  (hcell : ∀ j x, l[j]? = some x → w.cell? ((⟨g, off, none⟩ : Addr).add j) = some (.int .u8 x.toNat)) :
  (Builtin.unsafeString_ #[pt, it] ty #[.pointer (some ⟨g, off, none⟩), .int .i64 l.length]).run P w = .ok (.string ⟨l.toArray⟩) (w.freeze ⟨g, off, none⟩ l.length) := by
 have hl : l.length ≠ 0 := by simpa using h0
 have hlb := run_loadBytes (P := P) w l ⟨g, off, none⟩ .empty hcell
 have hlies := liesAt_off (P := P) hc (cells / P.cellsOf e) off l.length (by rw [hc]; simpa using hn)
 have h63' : ¬ (9223372036854775807 : Int) < (l.length : Int) := by omega
 have hdef : Builtin.unsafeString_ #[pt, it] ty #[.pointer (some ⟨g, off, none⟩), .int .i64 l.length] =
   (do
    let n ← asInt (.int .i64 l.length)
    if n < 0 then runtimePanic (.error "unsafe.String: len out of range")
    if n > IntKind.i64.max then unsupported (.unsafePointer "String: a length above the largest int")
    if n = 0 then pure (.string .empty)
    else if ← variablesAt ⟨g, off, none⟩ (← elemOf pt) n.toNat then do
     let s ← loadBytes ⟨g, off, none⟩ .empty n.toNat
     freeze ⟨g, off, none⟩ n.toNat
     pure (.string s)
    else unsupported (.unsafePointer "String: not so many bytes at ptr")) := rfl
 rw [hdef]
 have hmax : IntKind.i64.max = 9223372036854775807 := rfl
 have hneg : ¬ (l.length : Int) < 0 := by omega
 simp [asInt, asIntOf, hmax, h63', hneg, hl, variablesAt, hsh, elemOf, run_underlying hp, hlies, hlb]
set_option maxHeartbeats 2000000 in
theorem Any.bString (L : Lays.n169 P ρ) (X : Builder.Extra P ρ) (b g off cap : Nat) (p : Value) (l : List UInt8) (w : World) (cur : Array Value) (fz : Nat × Nat) (h0 : l ≠ []) (hbk : w.heap[b]? = some (.cells #[p, .slice (some ⟨g, off, none⟩) l.length cap] (ρ.t 72) (0, 0))) (hg : w.heap[g]? = some (.cells cur (ρ.t 5) fz)) (hn : l.length ≤ cap) (hcm : cap ≤ maxLen) (hcs : off + l.length ≤ cur.size) (hcell : ∀ j x, l[j]? = some x → w.cell? ⟨g, off + j, none⟩ = some (.int .u8 x.toNat)) :
  Calls P (ρ.f 169) #[.pointer (some ⟨b, 0, none⟩)] w fun e w' => e = .returned (.string ⟨l.toArray⟩) ∧ w' = w.drew.freeze ⟨g, off, none⟩ l.length := by
 have hl0 : l.length ≠ 0 := by simpa using h0
 have c1 : w.drew.cell? ⟨b, 1, none⟩ = some (.slice (some ⟨g, off, none⟩) l.length cap) := by
  have : w.drew.heap[b]? = some (.cells #[p, .slice (some ⟨g, off, none⟩) l.length cap] (ρ.t 72) (0, 0)) := hbk
  rw [Lib.cell_of_heap this]; rfl
 have hSD : (Builtin.unsafeSliceData_ #[(ρ.t 37)] (ρ.t 127) #[.slice (some ⟨g, off, none⟩) l.length cap]).run P w.drew = .ok (.pointer (some ⟨g, off, none⟩)) w.drew :=
  Lib.run_unsafeSliceData_row _ _ _ _ _ _ (by omega)
 have hUS : (Builtin.unsafeString_ #[(ρ.t 127), (ρ.t 3)] (ρ.t 9) #[.pointer (some ⟨g, off, none⟩), .int .i64 l.length]).run P w.drew = .ok (.string ⟨l.toArray⟩) (w.drew.freeze ⟨g, off, none⟩ l.length) := by
  refine run_unsafeString_off w.drew (ρ.t 127) (ρ.t 3) (ρ.t 9) (ρ.t 5) L.t127 X.cellsByte g off cur.size (by have hg' : w.drew.heap[g]? = some (.cells cur (ρ.t 5) fz) := hg; simp [World.shape?, hg']) l h0 (by omega) (by unfold maxLen at hcm; omega) ?_
  intro j x hx
  rw [Addr.add_lit]
  exact hcell j x hx
 have mixed := L.mixed
 have t72 := L.t72; have a72 := L.a72; have z72 := L.z72; have v72 := L.v72; have u72 := run_underlying L.t72
 have t70 := L.t70; have a70 := L.a70; have z70 := L.z70; have v70 := L.v70; have u70 := run_underlying L.t70
 have t37 := L.t37; have a37 := L.a37; have z37 := L.z37; have v37 := L.v37; have u37 := run_underlying L.t37
 have t127 := L.t127; have a127 := L.a127; have z127 := L.z127; have v127 := L.v127; have u127 := run_underlying L.t127
 have t3 := L.t3; have a3 := L.a3; have z3 := L.z3; have v3 := L.v3; have u3 := run_underlying L.t3
 have t9 := L.t9; have a9 := L.a9; have z9 := L.z9; have v9 := L.v9; have u9 := run_underlying L.t9
 have t5 := X.t5; have a5 := X.a5; have z5 := X.z5; have v5 := X.v5; have u5 := run_underlying X.t5
 go_enter L.f169, Body.n169_ntmps ρ
 go_wp2
 go_region_o
 all_goals (go_wp2; go_ret; exact ⟨rfl, rfl⟩)
end
theorem Tryd.split1 (s : ByteArray) (c : UInt8) (w : World) (hs : s.size < 4294967281) :
  Calls Tryd.prog 21 #[.string s, .string ⟨#[c]⟩] w fun e w' =>
   e = .returned (.slice (some ⟨w.heap.size, 0, none⟩) (Lib.countB s ⟨#[c]⟩ + 1) (Lib.countB s ⟨#[c]⟩ + 1)) ∧ w' = w.alloc (.cells ((Lib.splitB ⟨#[c]⟩ 0 (Lib.countB s ⟨#[c]⟩) s).map Value.string).toArray 9) := Any.split1 Tryd.lays146 (by kernel_rfl) s c w hs
theorem Tryd.bString (b g off cap : Nat) (p : Value) (l : List UInt8) (w : World) (cur : Array Value) (fz : Nat × Nat) (h0 : l ≠ []) (hbk : w.heap[b]? = some (.cells #[p, .slice (some ⟨g, off, none⟩) l.length cap] 54 (0, 0))) (hg : w.heap[g]? = some (.cells cur 5 fz)) (hn : l.length ≤ cap) (hcm : cap ≤ maxLen) (hcs : off + l.length ≤ cur.size) (hcell : ∀ j x, l[j]? = some x → w.cell? ⟨g, off + j, none⟩ = some (.int .u8 x.toNat)) :
  Calls Tryd.prog 19 #[.pointer (some ⟨b, 0, none⟩)] w fun e w' => e = .returned (.string ⟨l.toArray⟩) ∧ w' = w.drew.freeze ⟨g, off, none⟩ l.length := Any.bString Tryd.lays169 Tryd.Builder_Extra_169 b g off cap p l w cur fz h0 hbk hg hn hcm hcs hcell
theorem Tryd.bUsed (b : Nat) (w : World) (h0 : w.cell? ⟨b, 0, none⟩ = some (.pointer (some ⟨b, 0, none⟩))) :
  Calls Tryd.prog 36 #[.pointer (some ⟨b, 0, none⟩)] w fun e w' => e = .returned (.tuple #[]) ∧ w' = w := Any.Builder_copyCheck_used (L := { Tryd.lays156 with }) Tryd.Builder_Extra_156.toX72 b w h0
theorem Tryd.bFresh (b : Nat) (w : World) (h0 : w.cell? ⟨b, 0, none⟩ = some (.pointer none)) (hsh : w.shape? b = some (54, 2)) (hfz : w.frozen? ⟨b, 0, none⟩ = false) :
  Calls Tryd.prog 36 #[.pointer (some ⟨b, 0, none⟩)] w fun e w' => e = .returned (.tuple #[]) ∧ w' = w.setCell ⟨b, 0, none⟩ (.pointer (some ⟨b, 0, none⟩)) := Any.Builder_copyCheck_fresh (L := { Tryd.lays156 with }) Tryd.Builder_Extra_156.toX72 b w h0 hsh hfz
theorem Tryd.join (bk o c : Nat) (xs : List ByteArray) (sep : ByteArray) (w : World) (hcells : ∀ (j : Nat) x, xs[j]? = some x → w.cell? ⟨bk, o + j, none⟩ = some (.string x)) (hbk : bk < w.heap.size) (hN : xs.length ≤ 140737488355328) (hcap : xs.length ≤ c) (hlen : (Lib.join (xs.map (·.data.toList)) sep.data.toList).length ≤ 140737488355328) :
  Calls Tryd.prog 39 #[.slice (some ⟨bk, o, none⟩) xs.length c, .string sep] w fun e w' => e = .returned (.string ⟨(Lib.join (xs.map (·.data.toList)) sep.data.toList).toArray⟩) ∧ RowKit.Below w.heap.size w w' := Any.strings_Join Tryd.lays156 Tryd.Builder_Extra_156 bk o c xs sep w hcells hbk hN hcap hlen
theorem Tryd.idxByte (s : ByteArray) (c : Int) (w : World) : Calls Tryd.prog 70 #[.string s, .int .u8 c] w fun e w' => e = .returned (.int .i64 (Lib.indexByte s.data.toList c.toNat.toUInt8)) ∧ w' = w := Any.stringslite_IndexByte Tryd.lays217 s c w
end Go.Proofs
namespace Go.Abs
open Go
section
variable {O : Type} {RO : O → Loc → (Nat → Option Obj) → Prop} {P : Program} {ρ : Inj} {fp : Fp} {σ : AH O} {w : World}
theorem Post.killTurn {S : Nat → Prop} (h : Rel RO P ρ fp σ w) (b : Nat) {B0 : Nat} (hk : fp b B0 ≠ none) {w' : World} (hs : w'.heap.size = w.heap.size) (hw : ∀ B, B ≠ B0 → w'.heap[B]? = w.heap[B]?) (k1 : w'.os = w.os) (k2 : w'.tape = w.tape) (k3 : w'.output = w.output) : ∃ fp', Post RO P S ρ fp σ w ρ fp' (σ.kill b) w' := by
 let fp' : Fp := fun q => if q = b then (fun _ => none) else fp q
 have key : ∀ q B, fp' q B ≠ none → fp q B ≠ none ∧ B ≠ B0 := by
  intro q B hq
  by_cases hqb : q = b
  ·simp [fp', hqb] at hq
  ·have hq' : fp q B ≠ none := by simpa only [fp', hqb, if_false] using hq
   refine ⟨hq', fun e => ?_⟩
   subst e
   exact hqb (h.disj q b B hq' hk)
 have nf : ∀ B, (∀ c, fp c B = none) → B ≠ B0 := fun B hB e => hk (e ▸ hB b)
 refine ⟨fp', ⟨⟨?_, ?_, ?_, ?_, ?_, ?_⟩, ⟨k1, k2, k3, Nat.le_of_eq hs.symm, fun B _ hB => hw B (nf B hB)⟩, fun q B _ hq => ⟨q, (key q B hq).1⟩, fun _ o u hu _ => .inr ⟨o, u, hu⟩, Inj.le_refl _, fun _ _ => rfl, fun q _ _ h0 => by simp [h0], Nat.le_refl _⟩⟩
 ·intro q hq
  obtain ⟨x, y⟩ := h.next q hq
  exact ⟨x, by simp [y]⟩
 ·intro q x L hx hL
  simp at hx
  obtain ⟨hqb, hx⟩ := hx
  simp only [fp', hqb, if_false]
  exact (h.blk q x L hx hL).mono (Inj.le_refl _)
 ·intro q hq
  by_cases hqb : q = b
  ·simp [fp', hqb]
  ·simp only [fp', hqb, if_false]
   simp [hqb] at hq
   exact h.dead q hq
 ·intro q B o hq
  have hne := (key q B (by simp [hq])).2
  by_cases hqb : q = b
  ·simp [fp', hqb] at hq
  ·simp only [fp', hqb, if_false] at hq
   rw [hw B hne]
   exact h.has q B o hq
 ·exact fun q c B hq hc => h.disj q c B (key q B hq).1 (key c B hc).1
 ·intro B o u hu
  obtain ⟨g1, g2⟩ := h.fz B o u hu
  refine ⟨by rw [World.cell?_of_block (w := w) (w' := w') (hw B (nf B g2))]; exact g1, fun c => ?_⟩
  by_cases hc : c = b
  ·simp [fp', hc]
  ·simp only [fp', hc, if_false]; exact g2 c
end
def strsOf : List AV → Option (List Bs)
 | [] => some []
 | .s l :: r => (strsOf r).map (l :: ·)
 | _ => none
theorem strsOf_rel {ρ : Inj} : ∀ {cs : List AV} {us : List Value} {ws : List Bs}, strsOf cs = some ws → VRels ρ cs us → ∃ xs : List ByteArray, us = xs.map Value.string ∧ ws = xs.map (·.data.toList)
 | [], us, ws, h, hr => by
  cases hr
  simp only [strsOf, Option.some.injEq] at h
  subst h
  exact ⟨[], rfl, rfl⟩
 | c :: cs, us, ws, h, hr => by
  cases hr with
  | cons _ u _ us h1 h2 =>
   unfold strsOf at h
   split at h
   ·rename_i e; cases e
   ·rename_i l r e
    cases e
    obtain ⟨ws', e1, rfl⟩ := Option.map_eq_some_iff.1 h
    obtain ⟨xs, rfl, rfl⟩ := strsOf_rel e1 h2
    obtain ⟨s, e2, e3⟩ := h1.s_inv
    subst e2
    exact ⟨s :: xs, rfl, by rw [List.map_cons, e3]⟩
   ·cases h
theorem strsOf_map : ∀ ws : List Bs, strsOf (ws.map AV.s) = some ws
 | [] => rfl
 | w :: ws => by simp [strsOf, strsOf_map ws]
def asB2 : List AV → Option Bs
 | [] => some []
 | .i .u8 n :: r => bif decide (0 ≤ n) && decide (n < 256) then (asB2 r).map (UInt8.ofNat n.toNat :: ·) else none
 | _ => none
theorem asB2_rel {ρ : Inj} : ∀ {cs : List AV} {us : List Value} {l : Bs}, asB2 cs = some l → VRels ρ cs us → us = l.map fun c => Value.int .u8 c.toNat
 | [], us, l, h, hr => by
  cases hr
  simp only [asB2, Option.some.injEq] at h
  subst h; rfl
 | c :: cs, us, l, h, hr => by
  cases hr with
  | cons _ u _ us h1 h2 =>
   unfold asB2 at h
   split at h
   ·rename_i e; cases e
   ·rename_i n r e
    cases e
    obtain ⟨hc, h⟩ := bif_some h
    simp only [Bool.and_eq_true, decide_eq_true_eq] at hc
    obtain ⟨l', e1, rfl⟩ := Option.map_eq_some_iff.1 h
    rw [asB2_rel e1 h2, h1.i_inv, List.map_cons, u8n (by omega)]
    congr 2; omega
   ·cases h
theorem asB2_map : ∀ l : Bs, asB2 (l.map fun c => AV.i .u8 (c.toNat : Int)) = some l
 | [] => rfl
 | c :: l => by
  have h := c.toNat_lt
  have e : (decide ((0 : Int) ≤ (c.toNat : Int)) && decide ((c.toNat : Int) < 256)) = true := by simp; omega
  simp only [List.map_cons, asB2, e, cond_true, asB2_map l, Option.map_some]
  simp
theorem one1 {ρ : Inj} {x : AV} {args : Array Value} (h : VRels ρ [x] args.toList) : ∃ u, args = #[u] ∧ VRel ρ x u := by
 obtain ⟨l⟩ := args
 cases h with
 | cons _ u _ us h1 h2 => cases h2; exact ⟨u, rfl, h1⟩
theorem two2 {ρ : Inj} {x y : AV} {args : Array Value} (h : VRels ρ [x, y] args.toList) : ∃ u v, args = #[u, v] ∧ VRel ρ x u ∧ VRel ρ y v := by
 obtain ⟨l⟩ := args
 cases h with
 | cons _ u _ us h1 h2 =>
  cases h2 with
  | cons _ v _ vs h3 h4 => cases h4; exact ⟨u, v, rfl, h1, h3⟩
end Go.Abs
namespace Go.Abs.Tryd
open Go Go.Abs Go.Proofs
noncomputable def stringslite_IndexByte {O : Type} : Sm O := fun xs σ => match xs with
 | [.s s, .i .u8 c] => some (.i .i64 (Lib.indexByte s c.toNat.toUInt8), σ)
 | _ => none
theorem stringslite_IndexByte_ent : Entered Tryd.prog 70 := Tryd.call70
theorem stringslite_IndexByte_sound {O : Type} {RO : O → Loc → (Nat → Option Obj) → Prop} : FSound RO Tryd.prog 70 (stringslite_IndexByte (O := O)) := by
 intro xs σ v σ' hs ρ fp w args hx hr
 unfold stringslite_IndexByte at hs
 split at hs
 ·rename_i s c
  simp only [Option.some.injEq, Prod.mk.injEq] at hs
  obtain ⟨rfl, rfl⟩ := hs
  obtain ⟨u1, u2, rfl, h1, h2⟩ := two2 hx
  obtain ⟨b, rfl, rfl⟩ := h1.s_inv
  have := h2.i_inv
  subst this
  refine (Tryd.idxByte b c w).mono ?_
  rintro e w' ⟨rfl, rfl⟩
  exact ⟨ρ, fp, _, rfl, .i _ _, Post.refl hr⟩
 ·cases hs
def strings_Split {O : Type} : Sm O := fun xs σ => match xs with
 | [.s s, .s [c]] => bif Nat.ble s.length 1000000 then some (.sl (.loc (.f ((cutB c s).map AV.s)) 0 1) (cutB c s).length, σ) else none
 | _ => none
theorem strings_Split_ent : Entered Tryd.prog 21 := Tryd.call21
theorem cut_len (c : UInt8) : ∀ s : Bs, (cutB c s).length ≤ s.length + 1
 | [] => Nat.le_refl _
 | x :: s => by
  have := cut_len c s
  unfold cutB
  split
  ·simp; omega
  ·split
   ·simp
   ·rename_i h; rw [h] at this; simp at this ⊢; omega
theorem strings_Split_sound {O : Type} {RO : O → Loc → (Nat → Option Obj) → Prop} : FSound RO Tryd.prog 21 (strings_Split (O := O)) := by
 intro xs σ v σ' hs ρ fp w args hx hr
 unfold strings_Split at hs
 split at hs
 ·rename_i s c
  obtain ⟨hc, hs⟩ := bif_some hs
  have hc := Nat.le_of_ble_eq_true hc
  simp only [Option.some.injEq, Prod.mk.injEq] at hs
  obtain ⟨rfl, rfl⟩ := hs
  obtain ⟨u1, u2, rfl, h1, h2⟩ := two2 hx
  obtain ⟨b, rfl, rfl⟩ := h1.s_inv
  obtain ⟨b2, rfl, hb2⟩ := h2.s_inv
  have e2 : b2 = ⟨#[c]⟩ := by
   apply ByteArray.ext
   apply Array.toList_inj.1
   rw [← hb2]
  subst e2
  have hsz : b.data.toList.length = b.size := by simp
  rw [hsz] at hc
  refine (Tryd.split1 b c w (by omega)).mono ?_
  rintro e w' ⟨rfl, rfl⟩
  have hpl : (Lib.splitB ⟨#[c]⟩ 0 (Lib.countB b ⟨#[c]⟩) b).map (·.data.toList) = cutB c b.data.toList := by
   rw [Lib.splitB_data]
   exact split_cut c b.data.toList
  have hl := Lib.splitB_all ⟨#[c]⟩ (Nat.le_refl 1) 0 _ b rfl
  generalize Lib.splitB ⟨#[c]⟩ 0 (Lib.countB b ⟨#[c]⟩) b = ps at *
  rw [← hl]
  have hcl := cut_len c b.data.toList
  rw [← hpl, List.length_map] at hcl ⊢
  obtain ⟨ρ', q1, q2⟩ := Post.newFz (S := (· < σ.next)) hr (w' := w.alloc (.cells (ps.map Value.string).toArray 9)) (fun B hB => heap_alloc_old w _ hB) (by simp) rfl rfl rfl (ps.map Value.string) (fun i u hu => by
   simp [World.cell?, World.alloc, -World.alloc_eq] at hu ⊢
   exact hu)
  refine ⟨ρ', fp, _, rfl, ?_, q2⟩
  have rel : ∀ l : List ByteArray, VRels ρ' ((l.map (·.data.toList)).map AV.s) (l.map Value.string) := fun l => by
   induction l with
   | nil => exact .nil
   | cons x l ih => exact .cons _ _ _ _ (.s x) ih
  have := VRel.sl (.f ((ps.map (·.data.toList)).map AV.s)) 0 ps.length ps.length ⟨w.heap.size, 0, ps.length, 1⟩ (.f _ _ _ (rel ps) (List.all_eq_true.2 fun v hv => by obtain ⟨c, _, rfl⟩ := List.mem_map.1 hv; rfl) (fun i u hu => by rw [Nat.zero_add]; exact q1 i u hu)) (Nat.le_refl _) (by unfold maxLen; omega) (by simp)
  exact this
 ·cases hs
def strings_Join {O : Type} : Sm O := fun xs σ => match xs with
 | [.sl a n, .s [c]] => bif Nat.beq n 0 then none else (σ.rdSl a n 1).bind fun cs => (strsOf cs).bind fun ws => bif Nat.ble (joinS c ws).length 1000000 && Nat.ble n 1000000 then some (.s (joinS c ws), σ) else none
 | _ => none
theorem strings_Join_ent : Entered Tryd.prog 39 := Tryd.call39
theorem strings_Join_sound {O : Type} {RO : O → Loc → (Nat → Option Obj) → Prop} : FSound RO Tryd.prog 39 (strings_Join (O := O)) := by
 intro xs σ v σ' hs ρ fp w args hx hr
 unfold strings_Join at hs
 split at hs
 ·rename_i a n c
  cases hz : Nat.beq n 0 with
  | true => rw [hz] at hs; cases hs
  | false =>
  have hn0 : n ≠ 0 := fun e => by rw [e] at hz; cases hz
  rw [hz, cond_false] at hs
  obtain ⟨cs, hcs, hs⟩ := Option.bind_eq_some_iff.1 hs
  obtain ⟨ws, hws, hs⟩ := Option.bind_eq_some_iff.1 hs
  obtain ⟨hc, hs⟩ := bif_some hs
  simp only [Bool.and_eq_true] at hc
  have c1 := Nat.le_of_ble_eq_true hc.1
  have c2 := Nat.le_of_ble_eq_true hc.2
  simp only [Option.some.injEq, Prod.mk.injEq] at hs
  obtain ⟨rfl, rfl⟩ := hs
  obtain ⟨u1, u2, rfl, h1, h2⟩ := two2 hx
  obtain ⟨b2, rfl, hb2⟩ := h2.s_inv
  have fin : ∀ (B off cap : Nat) (us : List Value), u1 = .slice (some ⟨B, off, none⟩) n cap → VRels ρ cs us → us.length = n * 1 → n ≤ cap → (∀ j u, us[j]? = some u → w.cell? ⟨B, off + j, none⟩ = some u) → Calls Tryd.prog 39 #[u1, .string b2] w fun x w' => ∃ ρ' fp' u, x = .returned u ∧ VRel ρ' (.s (joinS c ws)) u ∧ Post RO Tryd.prog (· < σ.next) ρ fp σ w ρ' fp' σ w' := by
   intro B off cap us e1 hus hl hcap hcell
   obtain ⟨xs, rfl, rfl⟩ := strsOf_rel hws hus
   simp only [List.length_map, Nat.mul_one] at hl
   have hj : Lib.join (xs.map (·.data.toList)) b2.data.toList = joinS c (xs.map (·.data.toList)) := by rw [hb2]; exact join_is c _
   obtain ⟨x0, hx0⟩ : ∃ x, xs[0]? = some x := ⟨_, List.getElem?_eq_getElem (by omega)⟩
   have hb0 := cell_size (hcell 0 (.string x0) (by rw [List.getElem?_map, hx0]; rfl))
   rw [e1, ← hl]
   refine (Tryd.join B off cap xs b2 w (fun j x hxj => hcell j _ (by rw [List.getElem?_map, hxj]; rfl)) hb0 (by omega) (by omega) (by rw [hj]; omega)).mono ?_
   rintro e w' ⟨rfl, hb⟩
   refine ⟨ρ, fp, _, rfl, ?_, Post.more hr (fun B hB => hb.block B hB) hb.size hb.os hb.tape hb.output⟩
   rw [hj]
   have := VRel.s (ρ := ρ) ⟨(joinS c (xs.map (·.data.toList))).toArray⟩
   simpa using this
  unfold AH.rdSl at hcs
  generalize hu1 : u1 = uu at h1
  cases h1 with
  | sln => exact absurd rfl hn0
  | slz => exact absurd rfl hn0
  | sl0 => exact absurd rfl hn0
  | sl b o _ cap L hL q1 q2 q3 =>
   obtain ⟨us, k1, k2, k3, k4⟩ := ldN_sound hr hL hcs
   rw [← hu1]
   exact fin L.B (L.O + o) cap us hu1 k1 k3 q1 (fun j u hj => by rw [Nat.add_assoc]; exact k4 j u hj)
  | sla b o _ _ cap L hL q0 q1 q2 =>
   obtain ⟨us, k1, k2, k3, k4⟩ := ldN_sound hr hL hcs
   rw [← hu1]
   exact fin L.B (L.O + o) cap us hu1 k1 k3 q1 (fun j u hj => by rw [Nat.add_assoc]; exact k4 j u hj)
 ·cases hs
theorem bld54 : isBld Tryd.prog 54 = true := by kernel_rfl
noncomputable def __strings_Builder__copyCheck {O : Type} : Sm O := fun xs σ => match xs with
 | [.p (some (.n b, 0))] => match σ.blk b with
  | some (.cells true el [.p q, v]) => bif Nat.beq el 54 then (match q with
   | none => some (.tup [], σ.put b (.cells true el [.p (some (.n b, 0)), v]))
   | some (.n b', 0) => bif Nat.beq b' b then some (.tup [], σ) else none
   | _ => none) else none
  | _ => none
 | _ => none
theorem __strings_Builder__copyCheck_ent : Entered Tryd.prog 36 := Tryd.call36
theorem __strings_Builder__copyCheck_sound {O : Type} {RO : O → Loc → (Nat → Option Obj) → Prop} : FSound RO Tryd.prog 36 (__strings_Builder__copyCheck (O := O)) := by
 intro xs σ v σ' hs ρ fp w args hx hr
 unfold __strings_Builder__copyCheck at hs
 split at hs
 ·rename_i b
  split at hs
  ·rename_i el q vv hb
   obtain ⟨hel, hs1⟩ := bif_some hs
   clear hs
   have hel := Nat.eq_of_beq_eq_true hel
   subst hel
   obtain ⟨u1, rfl, h1⟩ := one1 hx
   obtain ⟨L, hL, rfl⟩ := h1.p_inv
   have hL := hL.n_inv
   obtain ⟨arr, p1, p2, p3, p4, p5, p6⟩ := hr.own hb hL
   obtain ⟨e1, e2⟩ := hr.alone hb hL bld54 p2
   obtain ⟨_, u0, g1, g2⟩ := p6 0 (.p q) rfl
   rw [e1] at g1
   have c0 : w.cell? ⟨L.B, 0, none⟩ = some u0 := by simp only [World.cell?, p2]; simpa using g1
   rw [e1]
   split at hs1
   ·simp only [Option.some.injEq, Prod.mk.injEq] at hs1
    obtain ⟨rfl, rfl⟩ := hs1
    cases g2
    have fz : w.frozen? ⟨L.B, 0, none⟩ = false := by simp [World.frozen?, p2]
    refine (Tryd.bFresh L.B w c0 (by simp only [World.shape?, p2, e2]; rfl) fz).mono ?_
    rintro e w' ⟨rfl, rfl⟩
    have hst : σ.st (.n b) 0 [.p (some (.n b, 0))] = some (σ.put b (.cells true 54 [.p (some (.n b, 0)), vv])) := by simp [AH.st, hb]; rfl
    have hv : VRels ρ [.p (some (.n b, 0))] [.pointer (some ⟨L.B, 0, none⟩)] := .cons _ _ _ _ (by have := VRel.p (ρ := ρ) (.n b) 0 L (.n b L hL); rw [e1] at this; exact this) .nil
    obtain ⟨fp', w', hrun, hp⟩ := st_sound (S := (· < σ.next)) hr (.n b L hL) hst hv rfl
    rw [e1] at hrun
    have hrun2 := run_storeCells_cells (P := Tryd.prog) L.B 0 [.pointer (some ⟨L.B, 0, none⟩)] 0 w (fun j hj => by
     have : j = 0 := by simpa using hj
     subst this
     simp [c0]) (fun j hj => by
     have : j = 0 := by simpa using hj
     subst this
     simp [World.frozen?, p2]) (fun v hv => by simp at hv; subst hv; rfl)
    rw [hrun2] at hrun
    cases hrun
    exact ⟨ρ, fp', _, rfl, .tup [] [] .nil, hp⟩
   ·rename_i b'
    obtain ⟨hbb, hs2⟩ := bif_some hs1
    clear hs1
    have hbb := Nat.eq_of_beq_eq_true hbb
    subst hbb
    simp only [Option.some.injEq, Prod.mk.injEq] at hs2
    obtain ⟨rfl, rfl⟩ := hs2
    obtain ⟨L2, hL2, rfl⟩ := g2.p_inv
    have := hL2.n_inv
    rw [hL] at this
    cases this
    rw [e1] at c0
    refine (Tryd.bUsed L.B w c0).mono ?_
    rintro e w' ⟨rfl, rfl⟩
    exact ⟨ρ, fp, _, rfl, .tup [] [] .nil, Post.refl hr⟩
   ·cases hs1
  ·cases hs
 ·cases hs
noncomputable def __strings_Builder__String {O : Type} : Sm O := fun xs σ => match xs with
 | [.p (some (.n b, 0))] => match σ.blk b with
  | some (.cells true el [p, .sl (.loc (.n k) o e) n]) => bif Nat.beq el 54 && !Nat.beq n 0 && !Nat.beq k b then (match σ.blk k with
   | some (.cells true el2 cs) => bif Nat.beq el2 5 && Nat.ble (o + n) cs.length then (asB2 ((cs.drop o).take n)).bind fun l => some (.s l, σ.kill k) else none
   | _ => none) else none
  | _ => none
 | _ => none
theorem __strings_Builder__String_ent : Entered Tryd.prog 19 := Tryd.call19
theorem __strings_Builder__String_sound {O : Type} {RO : O → Loc → (Nat → Option Obj) → Prop} : FSound RO Tryd.prog 19 (__strings_Builder__String (O := O)) := by
 intro xs σ v σ' hs ρ fp w args hx hr
 unfold __strings_Builder__String at hs
 split at hs
 ·rename_i b
  split at hs
  ·rename_i el p k o e n hb
   obtain ⟨hc, hs1⟩ := bif_some hs
   clear hs
   simp only [Bool.and_eq_true, Bool.not_eq_true'] at hc
   obtain ⟨⟨hel, hn⟩, hkb⟩ := hc
   have hel := Nat.eq_of_beq_eq_true hel
   subst hel
   have hn0 : n ≠ 0 := fun e => by rw [e] at hn; cases hn
   split at hs1
   ·rename_i el2 cs hk
    obtain ⟨hc2, hs2⟩ := bif_some hs1
    clear hs1
    simp only [Bool.and_eq_true] at hc2
    have hel2 := Nat.eq_of_beq_eq_true hc2.1
    have hfit := Nat.le_of_ble_eq_true hc2.2
    subst hel2
    obtain ⟨l, hl, hs3⟩ := Option.bind_eq_some_iff.1 hs2
    clear hs2
    simp only [Option.some.injEq, Prod.mk.injEq] at hs3
    obtain ⟨rfl, rfl⟩ := hs3
    obtain ⟨u1, rfl, h1⟩ := one1 hx
    obtain ⟨L, hL, rfl⟩ := h1.p_inv
    have hL := hL.n_inv
    obtain ⟨arr, p1, p2, p3, p4, p5, p6⟩ := hr.own hb hL
    obtain ⟨e1, e2⟩ := hr.alone hb hL bld54 p2
    obtain ⟨_, u0, g1, g2⟩ := p6 0 p rfl
    obtain ⟨_, u2, g3, g4⟩ := p6 1 (.sl (.loc (.n k) o e) n) rfl
    rw [e1] at g1 g3 ⊢
    have earr : arr = #[u0, u2] := by
     apply Array.ext_getElem?
     intro i
     match i with
     | 0 => simpa using g1
     | 1 => simpa using g3
     | i + 2 =>
      have : arr.size = 2 := e2
      simp [Array.getElem?_eq_none, this]
    subst earr
    generalize hu2 : u2 = uu at g4
    cases g4 with
    | sl0 => exact absurd rfl hn0
    | sl _ _ _ cap L2 hL2 q1 q2 q3 =>
     subst hu2
     have hL2 := hL2.n_inv
     obtain ⟨cur, r1, r2, r3, r4, r5, r6⟩ := hr.own hk hL2
     have hld : σ.ldN (.n k) o n = some ((cs.drop o).take n) := by simp only [AH.ldN, hk]; rw [Nat.ble_eq_true_of_le hfit]; rfl
     obtain ⟨us, k1, k2, k3, k4⟩ := ldN_sound hr (.n k L2 hL2) hld
     have f1 := asB2_rel hl k1
     have hll : l.length = n := by rw [f1] at k3; simpa using k3
     have cells : ∀ j x, l[j]? = some x → w.cell? ⟨L2.B, L2.O + o + j, none⟩ = some (.int .u8 x.toNat) := by
      intro j x hj
      have := k4 j (.int .u8 x.toNat) (by rw [f1, List.getElem?_map, hj]; rfl)
      rw [Nat.add_assoc]; exact this
     have key := Tryd.bString L.B L2.B (L2.O + o) cap u0 l w cur (0, 0) (fun e => by rw [e] at hll; exact hn0 hll.symm) (by rw [hll]; exact p2) r2 (by omega) q2 (by omega) cells
     refine key.mono ?_
     rintro e w' ⟨rfl, rfl⟩
     obtain ⟨fp', hp⟩ := Post.killTurn (S := (· < σ.next)) hr k (B0 := L2.B) (by rw [r1]; simp [one_self]) (w' := w.drew.freeze ⟨L2.B, L2.O + o, none⟩ l.length) (by unfold World.freeze; split <;> simp [World.drew, -World.drew_eq]) (fun B hB => by
      unfold World.freeze
      split
      ·rfl
      ·show (w.heap.modify L2.B _)[B]? = _
       rw [Array.getElem?_modify, if_neg (fun e => hB e.symm)]) (by unfold World.freeze; split <;> rfl) (by unfold World.freeze; split <;> rfl) (by unfold World.freeze; split <;> rfl)
     refine ⟨ρ, fp', _, rfl, ?_, hp⟩
     have := VRel.s (ρ := ρ) ⟨l.toArray⟩
     simpa using this
   ·cases hs1
  ·cases hs
 ·cases hs
end Go.Abs.Tryd
