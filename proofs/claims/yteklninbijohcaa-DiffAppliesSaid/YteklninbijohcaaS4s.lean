/-
  What slices.Sort does: by the contract of the shelf. No conditions.
-/
import Derived.Test.YteklninbijohcaaS4b
import Derived.Shelf.Sort.Plain
import Derived.Shelf.Slices.In.SortNone
import Derived.Ground.Names2Prog
set_option linter.unusedVariables false
set_option linter.unusedSimpArgs false
set_option linter.constructorNameAsVariable false
set_option maxRecDepth 100000
namespace Go.Proofs
open Go.Shelf
def Try.lays189_ren : Go.Shelf.Ren := ⟨fun | 189 => 81 | 125 => 110 | 257 => 109 | 128 => 133 | 129 => 134 | 294 => 124 | 295 => 125 | 296 => 126 | 297 => 127 | 298 => 128 | 299 => 129 | 216 => 130 | 300 => 131 | 301 => 132 | 328 => 144 | 329 => 145 | 330 => 146 | 331 => 147 | 332 => 148 | 215 => 149 | 343 => 150 | n => n, fun | 28 => 24 | 3 => 3 | 46 => 90 | 0 => 0 | 51 => 186 | 53 => 22 | 4 => 4 | 183 => 180 | 182 => 179 | 131 => 183 | 5 => 5 | 9 => 9 | 218 => 196 | 222 => 199 | 228 => 201 | 229 => 202 | n => n, fun | n => n⟩
theorem Try.lays189 : Go.Proofs.Lays.n189 Try.prog Try.lays189_ren := {
  mixed := by kernel_rfl
  f125 := Try.func110.trans (congrArg some (by kernel_rfl))
  f128 := Try.func133.trans (congrArg some (by kernel_rfl))
  f129 := Try.func134.trans (congrArg some (by kernel_rfl))
  f189 := Try.func81.trans (congrArg some (by kernel_rfl))
  f215 := Try.func149.trans (congrArg some (by kernel_rfl))
  f216 := Try.func130.trans (congrArg some (by kernel_rfl))
  f257 := Try.func109.trans (congrArg some (by kernel_rfl))
  f294 := Try.func124.trans (congrArg some (by kernel_rfl))
  f295 := Try.func125.trans (congrArg some (by kernel_rfl))
  f296 := Try.func126.trans (congrArg some (by kernel_rfl))
  f297 := Try.func127.trans (congrArg some (by kernel_rfl))
  f298 := Try.func128.trans (congrArg some (by kernel_rfl))
  f299 := Try.func129.trans (congrArg some (by kernel_rfl))
  f300 := Try.func131.trans (congrArg some (by kernel_rfl))
  f301 := Try.func132.trans (congrArg some (by kernel_rfl))
  f328 := Try.func144.trans (congrArg some (by kernel_rfl))
  f329 := Try.func145.trans (congrArg some (by kernel_rfl))
  f330 := Try.func146.trans (congrArg some (by kernel_rfl))
  f331 := Try.func147.trans (congrArg some (by kernel_rfl))
  f332 := Try.func148.trans (congrArg some (by kernel_rfl))
  f343 := Try.func150.trans (congrArg some (by kernel_rfl))
  t0 := Try.underlying0
  a0 := Try.isAgg0
  z0 := Try.sizeOf0
  v0 := Try.zeroValue0
  t3 := Try.underlying3
  a3 := Try.isAgg3
  z3 := Try.sizeOf3
  v3 := Try.zeroValue3
  t4 := Try.underlying4
  a4 := Try.isAgg4
  z4 := Try.sizeOf4
  v4 := Try.zeroValue4
  t5 := Try.underlying5
  a5 := Try.isAgg5
  z5 := Try.sizeOf5
  v5 := Try.zeroValue5
  t9 := Try.underlying9
  a9 := Try.isAgg9
  z9 := Try.sizeOf9
  v9 := Try.zeroValue9
  t28 := Try.underlying24
  a28 := Try.isAgg24
  z28 := Try.sizeOf24
  v28 := Try.zeroValue24
  t46 := Try.underlying90
  a46 := Try.isAgg90
  z46 := Try.sizeOf90
  v46 := Try.zeroValue90
  t51 := Try.underlying186
  a51 := Try.isAgg186
  z51 := Try.sizeOf186
  v51 := Try.zeroValue186
  t53 := Try.underlying22
  a53 := Try.isAgg22
  z53 := Try.sizeOf22
  v53 := Try.zeroValue22
  t131 := Try.underlying183
  a131 := Try.isAgg183
  z131 := Try.sizeOf183
  v131 := Try.zeroValue183
  t182 := Try.underlying179
  a182 := Try.isAgg179
  z182 := Try.sizeOf179
  v182 := Try.zeroValue179
  t183 := Try.underlying180
  a183 := Try.isAgg180
  z183 := Try.sizeOf180
  v183 := Try.zeroValue180
  t218 := Try.underlying196
  a218 := Try.isAgg196
  z218 := Try.sizeOf196
  v218 := Try.zeroValue196
  t222 := Try.underlying199
  a222 := Try.isAgg199
  z222 := Try.sizeOf199
  v222 := Try.zeroValue199
  t228 := Try.underlying201
  a228 := Try.isAgg201
  z228 := Try.sizeOf201
  v228 := Try.zeroValue201
  t229 := Try.underlying202
  a229 := Try.isAgg202
  z229 := Try.sizeOf202
  v229 := Try.zeroValue202 }
open Go.Sort Go.RowKit in
theorem Try.slices_Sort_int (blk off cap : Nat) (zs : List Int) (w : World) (hH : Holds (Value.int .i64) w blk off zs.toArray) (hblk : blk < w.heap.size) (hsz : zs.length < 4611686018427387904) :
    Calls Try.prog 81 #[.slice (some ⟨blk, off, none⟩) zs.length cap] w fun e w' =>
      e = .returned (.tuple #[]) ∧ ∃ n os, w' = grow (putRow (Value.int .i64) (Sort.ahead w n) blk off (zs.mergeSort fun x y => decide (x ≤ y)).toArray) os := Any.slices_Sort_int Try.lays189 blk off cap zs w hH hblk hsz
open Go.RowKit Go.Sort in
theorem Try.slices_Sort_int_none (p : Option Addr) (cap : Nat) (w : World) :
    Calls Try.prog 81 #[.slice p 0 cap] w fun e w' => e = .returned (.tuple #[]) ∧ w' = w := Any.slices_Sort_int_none Try.lays189 p cap w
end Go.Proofs
namespace Go.Abs
open Go Go.Proofs Go.Sort Go.RowKit
variable {O : Type} {RO : O → Loc → (Nat → Option Obj) → Prop} {P : Program}
/-- the world grows, what was there stands -/
theorem Post.more {S : Nat → Prop} {ρ : Inj} {fp : Fp} {σ : AH O} {w w' : World} (h : Rel RO P ρ fp σ w) (hk : ∀ B : Nat, B < w.heap.size → w'.heap[B]? = w.heap[B]?) (hs : w.heap.size ≤ w'.heap.size) (h1 : w'.os = w.os) (h2 : w'.tape = w.tape) (h3 : w'.output = w.output) : Post RO P S ρ fp σ w ρ fp σ w' :=
  ⟨h.world hk hs, ⟨h1, h2, h3, hs, fun B hB _ => hk B hB⟩, fun b _ _ hb => ⟨b, hb⟩, fun _ _ _ hb _ => .inr ⟨_, _, hb⟩, Inj.le_refl _, fun _ _ => rfl, fun _ _ _ h => h, Nat.le_refl _⟩
theorem slice0 {ρ : Inj} {a : SA} {u : Value} (h : VRel ρ (.sl a 0) u) : ∃ p cap, u = .slice p 0 cap := by
  cases h with
  | sln => exact ⟨_, _, rfl⟩
  | slz A => exact ⟨_, _, rfl⟩
  | sl0 _ _ _ A => exact ⟨_, _, rfl⟩
  | sl _ _ _ cap L hL q1 q2 q3 => exact ⟨_, _, rfl⟩
end Go.Abs
namespace Go.Abs.Try
open Go Go.Abs Go.Proofs Go.Sort Go.RowKit

def intsOf : List AV → Option (List Int)
  | [] => some []
  | .i .i64 n :: l => (intsOf l).map (n :: ·)
  | _ => none
theorem intsOf_eq : ∀ {cs : List AV} {zs : List Int}, intsOf cs = some zs → cs = zs.map (AV.i .i64)
  | [], zs, h => by cases h; rfl
  | c :: cs, zs, h => by
    unfold intsOf at h
    split at h
    · next e => cases e
    · next n l e =>
      cases e
      obtain ⟨ys, h1, h2⟩ := Option.map_eq_some_iff.1 h
      subst h2
      rw [intsOf_eq h1]; rfl
    · cases h
noncomputable def slices_Sort___int_int_ {O : Type} : Sm O := fun xs σ =>
  match xs with
  | [.sl a n] => bif Nat.beq n 0 then some (.tup [], σ) else bif Nat.ble n 1000000000000 then (σ.rdSl a n 1).bind fun cs => (intsOf cs).bind fun zs => (σ.wrSl a ((zs.mergeSort fun x y => decide (x ≤ y)).map (AV.i .i64))).bind fun σ' => some (.tup [], σ') else none
  | _ => none
theorem slices_Sort___int_int__ent : Entered Try.prog 81 := Try.call81
theorem slices_Sort___int_int__sound {O : Type} {RO : O → Loc → (Nat → Option Obj) → Prop} : FSound RO Try.prog 81 (slices_Sort___int_int_ (O := O)) := by
  intro xs σ v σ' hs ρ fp w args hx hr
  unfold slices_Sort___int_int_ at hs
  split at hs
  · rename_i a n
    obtain ⟨u, rfl, hu⟩ : ∃ u, args = #[u] ∧ VRel ρ (.sl a n) u := by
      obtain ⟨l⟩ := args
      cases hx with
      | cons _ u _ us h1 h2 =>
        cases h2
        exact ⟨u, rfl, h1⟩
    cases hn : Nat.beq n 0 with
    | true =>
      have := Nat.eq_of_beq_eq_true hn
      subst this
      rw [hn] at hs
      cases hs
      obtain ⟨p, cap, rfl⟩ := slice0 hu
      refine (Try.slices_Sort_int_none p cap w).mono ?_
      rintro x w' ⟨rfl, rfl⟩
      exact ⟨ρ, fp, .tuple #[], rfl, .tup [] [] .nil, Post.refl hr⟩
    | false =>
      rw [hn] at hs
      simp only [cond_false] at hs
      have hn0 : n ≠ 0 := fun e => by subst e; cases hn
      obtain ⟨hbig, hs⟩ := bif_some hs
      have hbig := Nat.le_of_ble_eq_true hbig
      obtain ⟨cs, h1, hs⟩ := Option.bind_eq_some_iff.1 hs
      obtain ⟨zs, h2, hs⟩ := Option.bind_eq_some_iff.1 hs
      obtain ⟨σ1, h3, hs⟩ := Option.bind_eq_some_iff.1 hs
      cases hs
      have e2 := intsOf_eq h2
      subst e2
      cases hu with
      | sln => exact absurd rfl hn0
      | slz A => exact absurd rfl hn0
      | sl0 _ _ _ A => exact absurd rfl hn0
      | sl b o _ cap L hL q1 q2 q3 =>
      cases hL with
      | f cs us L e1 e2 e3 => simp only [AH.wrSl, AH.st] at h3; cases h3
      | n k L hL =>
      simp only [AH.rdSl, AH.ldN, Nat.mul_one] at h1
      simp only [AH.wrSl, AH.st] at h3
      split at h3
      · rename_i el cells hk
        rw [hk] at h1
        simp only at h1
        obtain ⟨hle, h1⟩ := bif_some h1
        obtain ⟨hle3, h3⟩ := bif_some h3
        have hle := Nat.le_of_ble_eq_true hle
        cases h3
        have h1 := Option.some.inj h1
        obtain ⟨arr, _, g2, g3, g4, g5, g6⟩ := hr.own hk hL
        have lz : zs.length = n := by have := congrArg List.length h1; simp at this; omega
        have ls : (zs.mergeSort fun x y => decide (x ≤ y)).length = zs.length := List.length_mergeSort _
        have cell : ∀ (j : Nat) (z : Int), zs[j]? = some z → arr[L.O + (o + j)]? = some (.int .i64 z) := fun j z hj => by
          have hjl := (List.getElem?_eq_some_iff.1 hj).1
          have : cells[o + j]? = some (.i .i64 z) := by
            have := congrArg (·[j]?) h1
            simp only [List.getElem?_map, hj, Option.map_some, List.getElem?_take, List.getElem?_drop] at this
            rw [if_pos (by omega)] at this
            exact this
          obtain ⟨_, u, hu, hv⟩ := g6 _ _ this
          cases hv
          exact hu
        have hH : Holds (Value.int .i64) w L.B (L.O + o) zs.toArray := fun j hj => by
          have hj' : j < zs.length := by simpa using hj
          have hz := List.getElem?_eq_getElem hj'
          have hc := cell j _ hz
          refine ⟨?_, ?_⟩
          · rw [cell_of_row w L.B (L.O + o + j) arr el (0, 0) g2, show L.O + o + j = L.O + (o + j) by omega, hc]
            simp [hj']
          · simp [World.frozen?, g2]
        rw [← lz]
        refine (Try.slices_Sort_int L.B (L.O + o) cap zs w hH (Array.getElem?_eq_some_iff.1 g2).1 (by omega)).mono ?_
        rintro x w' ⟨rfl, m, os, rfl⟩
        have hc : ∀ (i : Nat) (v : AV), (cells.take o ++ (zs.mergeSort fun x y => decide (x ≤ y)).map (AV.i .i64) ++ cells.drop (o + ((zs.mergeSort fun x y => decide (x ≤ y)).map (AV.i .i64)).length))[i]? = some v → v.isOne = true ∧ ∃ u, (putCells (Value.int .i64) (L.O + o) (zs.mergeSort fun x y => decide (x ≤ y)).toArray arr)[L.O + i]? = some u ∧ VRel ρ v u := by
          intro i v hv
          rw [splice_get _ _ _ _ (by simp; omega)] at hv
          simp only [List.length_map, ls] at hv
          have pc : ∀ (x : Value), arr[L.O + i]? = some x → (putCells (Value.int .i64) (L.O + o) (zs.mergeSort fun x y => decide (x ≤ y)).toArray arr)[L.O + i]? = some (if L.O + o ≤ L.O + i ∧ L.O + i < L.O + o + zs.length then .int .i64 ((zs.mergeSort fun x y => decide (x ≤ y)).toArray[L.O + i - (L.O + o)]!) else x) := fun x hx => by
            simp only [putCells, Array.getElem?_mapIdx, hx, Option.map_some, List.size_toArray, ls]
          split at hv
          · next c =>
            obtain ⟨a1, u, a2, a3⟩ := g6 i v hv
            refine ⟨a1, u, ?_, a3⟩
            rw [pc u a2, if_neg (by omega)]
          · next c =>
            split at hv
            · next c2 =>
              rw [List.getElem?_map] at hv
              obtain ⟨z, hz, rfl⟩ := Option.map_eq_some_iff.1 hv
              have hil : i < cells.length := by omega
              obtain ⟨_, u, a2, _⟩ := g6 i _ (List.getElem?_eq_getElem hil)
              refine ⟨rfl, .int .i64 z, ?_, .i _ _⟩
              rw [pc u a2, if_pos (by omega), show L.O + i - (L.O + o) = i - o by omega]
              simp [hz]
            · next c2 =>
              obtain ⟨a1, u, a2, a3⟩ := g6 i v hv
              refine ⟨a1, u, ?_, a3⟩
              rw [pc u a2, if_neg (by omega)]
        obtain ⟨fp', hp⟩ := Post.set (S := (· < σ.next)) hr hk hL g2 (cells.take o ++ (zs.mergeSort fun x y => decide (x ≤ y)).map (AV.i .i64) ++ cells.drop (o + ((zs.mergeSort fun x y => decide (x ≤ y)).map (AV.i .i64)).length)) (putCells (Value.int .i64) (L.O + o) (zs.mergeSort fun x y => decide (x ≤ y)).toArray arr) (by simp [putCells]) (by simp; omega) hc
        · refine ⟨ρ, fp', .tuple #[], rfl, .tup [] [] .nil, hp.trans ?_⟩
          have hsz : (w.setRow L.B (putCells (Value.int .i64) (L.O + o) (zs.mergeSort fun x y => decide (x ≤ y)).toArray arr)).heap.size = w.heap.size := by simp [World.setRow]
          refine Post.more hp.rel (fun B hB => ?_) (by rw [hsz]; simp [grow]) rfl rfl rfl
          rw [hsz] at hB
          by_cases e : B = L.B
          · subst e
            rw [setRow_heap w _ arr _ el _ g2]
            simp only [grow, putRow, mapBlock, Sort.ahead]
            rw [Array.getElem?_append_left (by simpa using hB), Array.getElem?_modify, if_pos rfl, g2]; rfl
          · rw [setRow_other w _ _ _ e]
            simp only [grow, putRow, mapBlock, Sort.ahead]
            rw [Array.getElem?_append_left (by simpa using hB), Array.getElem?_modify, if_neg (fun h => e h.symm)]
      · cases h3
  · cases hs
end Go.Abs.Try
