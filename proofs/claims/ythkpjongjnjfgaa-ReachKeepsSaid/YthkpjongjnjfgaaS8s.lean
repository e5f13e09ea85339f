/-
  What graph.Ids and graph.Count do: by the contracts of the shelf. No conditions.
-/
import Derived.Test.YthkpjongjnjfgaaAbsExtern
import Derived.Test.YthkpjongjnjfgaaAbsSl
import Derived.Test.YthkpjongjnjfgaaAbsIter
import Derived.Shelf.SlIterI.Nil
import Derived.Shelf.SortM.Plain
import Derived.Shelf.SortM.SortNone
import Derived.Test.YthkpjongjnjfgaaProg
import Derived.KernelRfl
set_option linter.unusedVariables false
set_option linter.unusedSimpArgs false
set_option linter.constructorNameAsVariable false
set_option maxRecDepth 100000
namespace Go.Proofs
open Go.RowKit Go.Maps Go.Sort Go.Shelf
def Try.keysA_ren : Go.Shelf.Ren := ⟨fun | 7 => 71 | 10 => 106 | n => n, fun | 23 => 110 | 26 => 3 | 3 => 114 | 28 => 126 | 0 => 0 | 27 => 125 | 33 => 64 | 4 => 4 | n => n, fun | n => n⟩
theorem Try.keysA : Go.Proofs.SlLaysZI.n7 Try.prog Try.keysA_ren := {
  mixed := by kernel_rfl
  f7 := ⟨"maps.Keys[map[int]*haymow/graph.node,int,*haymow/graph.node]", by decide, Try.func71.trans (congrArg some (by kernel_rfl))⟩
  f10 := ⟨"maps.Keys[map[int]*haymow/graph.node,int,*haymow/graph.node]$1", by decide, Try.func106.trans (congrArg some (by kernel_rfl))⟩
  t0 := Try.underlying0
  a0 := Try.isAgg0
  z0 := Try.sizeOf0
  v0 := Try.zeroValue0
  t4 := Try.underlying4
  a4 := Try.isAgg4
  z4 := Try.sizeOf4
  v4 := Try.zeroValue4
  t23 := Try.underlying110
  a23 := Try.isAgg110
  z23 := Try.sizeOf110
  v23 := Try.zeroValue110
  t26 := Try.underlying3
  a26 := Try.isAgg3
  z26 := Try.sizeOf3
  v26 := Try.zeroValue3
  t27 := Try.underlying125
  a27 := Try.isAgg125
  z27 := Try.sizeOf125
  v27 := Try.zeroValue125
  t28 := Try.underlying126
  a28 := Try.isAgg126
  z28 := Try.sizeOf126
  v28 := Try.zeroValue126
  t33 := Try.underlying64
  a33 := Try.isAgg64
  z33 := Try.sizeOf64
  v33 := Try.zeroValue64 }
def Try.sortedA_ren : Go.Shelf.Ren := ⟨fun | 6 => 70 | 8 => 104 | 9 => 105 | 11 => 117 | 13 => 119 | 12 => 118 | 23 => 139 | 24 => 126 | 14 => 130 | 15 => 131 | 16 => 132 | 17 => 133 | 18 => 134 | 19 => 135 | 20 => 136 | 21 => 137 | 22 => 138 | 25 => 140 | 26 => 141 | 27 => 142 | 28 => 143 | 29 => 144 | 30 => 145 | 31 => 146 | n => n, fun | 26 => 3 | 28 => 126 | 24 => 25 | 0 => 0 | 3 => 3 | 37 => 149 | 48 => 198 | 50 => 54 | 4 => 4 | 40 => 192 | 39 => 191 | 45 => 195 | 5 => 5 | 9 => 9 | 51 => 199 | 55 => 202 | 57 => 204 | 58 => 130 | 33 => 64 | n => n, fun | n => n⟩
theorem Try.sortedA : Go.Proofs.SlLaysZI.n6 Try.prog Try.sortedA_ren := {
  mixed := by kernel_rfl
  f6 := ⟨"slices.Sorted[int]", by decide, Try.func70.trans (congrArg some (by kernel_rfl))⟩
  f8 := ⟨"slices.Collect[int]", by decide, Try.func104.trans (congrArg some (by kernel_rfl))⟩
  f11 := ⟨"slices.AppendSeq[[]int,int]", by decide, Try.func117.trans (congrArg some (by kernel_rfl))⟩
  t0 := Try.underlying0
  a0 := Try.isAgg0
  z0 := Try.sizeOf0
  v0 := Try.zeroValue0
  t24 := Try.underlying25
  a24 := Try.isAgg25
  z24 := Try.sizeOf25
  v24 := Try.zeroValue25
  t26 := Try.underlying3
  a26 := Try.isAgg3
  z26 := Try.sizeOf3
  v26 := Try.zeroValue3
  t28 := Try.underlying126
  a28 := Try.isAgg126
  z28 := Try.sizeOf126
  v28 := Try.zeroValue126
  i26 := by kernel_rfl }
def Try.sortA_ren : Go.Shelf.Ren := ⟨fun | 5 => 105 | 8 => 119 | 7 => 118 | 19 => 139 | 20 => 126 | 10 => 130 | 11 => 131 | 12 => 132 | 13 => 133 | 14 => 134 | 15 => 135 | 16 => 136 | 17 => 137 | 18 => 138 | 30 => 140 | 31 => 141 | 32 => 142 | 33 => 143 | 34 => 144 | 35 => 145 | 40 => 146 | n => n, fun | 23 => 25 | 25 => 3 | 3 => 3 | 32 => 149 | 22 => 25 | 0 => 0 | 44 => 198 | 46 => 54 | 4 => 4 | 36 => 192 | 35 => 191 | 41 => 195 | 5 => 5 | 9 => 9 | 53 => 199 | 57 => 202 | 63 => 204 | 64 => 130 | n => n, fun | n => n⟩
theorem Try.sortA : Go.Proofs.SlLaysM.n5 Try.prog Try.sortA_ren := {
  mixed := by kernel_rfl
  f5 := ⟨"slices.Sort[[]int,int]", by decide, Try.func105.trans (congrArg some (by kernel_rfl))⟩
  f7 := ⟨"slices.pdqsortOrdered[int]", by decide, Try.func118.trans (congrArg some (by kernel_rfl))⟩
  f8 := Try.func119.trans (congrArg some (by kernel_rfl))
  f10 := ⟨"slices.insertionSortOrdered[int]", by decide, Try.func130.trans (congrArg some (by kernel_rfl))⟩
  f11 := ⟨"slices.heapSortOrdered[int]", by decide, Try.func131.trans (congrArg some (by kernel_rfl))⟩
  f12 := ⟨"slices.breakPatternsOrdered[int]", by decide, Try.func132.trans (congrArg some (by kernel_rfl))⟩
  f13 := ⟨"slices.choosePivotOrdered[int]", by decide, Try.func133.trans (congrArg some (by kernel_rfl))⟩
  f14 := ⟨"slices.reverseRangeOrdered[int]", by decide, Try.func134.trans (congrArg some (by kernel_rfl))⟩
  f15 := ⟨"slices.partialInsertionSortOrdered[int]", by decide, Try.func135.trans (congrArg some (by kernel_rfl))⟩
  f16 := ⟨"cmp.Less[int]", by decide, Try.func136.trans (congrArg some (by kernel_rfl))⟩
  f17 := ⟨"slices.partitionEqualOrdered[int]", by decide, Try.func137.trans (congrArg some (by kernel_rfl))⟩
  f18 := ⟨"slices.partitionOrdered[int]", by decide, Try.func138.trans (congrArg some (by kernel_rfl))⟩
  f19 := Try.func139.trans (congrArg some (by kernel_rfl))
  f20 := Try.func126.trans (congrArg some (by kernel_rfl))
  f30 := ⟨"slices.siftDownOrdered[int]", by decide, Try.func140.trans (congrArg some (by kernel_rfl))⟩
  f31 := Try.func141.trans (congrArg some (by kernel_rfl))
  f32 := Try.func142.trans (congrArg some (by kernel_rfl))
  f33 := ⟨"slices.medianAdjacentOrdered[int]", by decide, Try.func143.trans (congrArg some (by kernel_rfl))⟩
  f34 := ⟨"slices.medianOrdered[int]", by decide, Try.func144.trans (congrArg some (by kernel_rfl))⟩
  f35 := ⟨"cmp.isNaN[int]", by decide, Try.func145.trans (congrArg some (by kernel_rfl))⟩
  f40 := ⟨"slices.order2Ordered[int]", by decide, Try.func146.trans (congrArg some (by kernel_rfl))⟩
  t0 := Try.underlying0
  a0 := Try.isAgg0
  z0 := Try.sizeOf0
  v0 := Try.zeroValue0
  t3 := Try.underlying3
  a3 := Try.isAgg3
  z3 := Try.sizeOf3
  v3 := Try.zeroValue3
  t4 := Try.underlying4
  a4 := Try.isAgg4
  z4 := Try.sizeOf4
  v4 := Try.zeroValue4
  t5 := Try.underlying5
  a5 := Try.isAgg5
  z5 := Try.sizeOf5
  v5 := Try.zeroValue5
  t9 := Try.underlying9
  a9 := Try.isAgg9
  z9 := Try.sizeOf9
  v9 := Try.zeroValue9
  t22 := Try.underlying25
  a22 := Try.isAgg25
  z22 := Try.sizeOf25
  v22 := Try.zeroValue25
  t23 := Try.underlying25
  a23 := Try.isAgg25
  z23 := Try.sizeOf25
  v23 := Try.zeroValue25
  t25 := Try.underlying3
  a25 := Try.isAgg3
  z25 := Try.sizeOf3
  v25 := Try.zeroValue3
  t32 := Try.underlying149
  a32 := Try.isAgg149
  z32 := Try.sizeOf149
  v32 := Try.zeroValue149
  t35 := Try.underlying191
  a35 := Try.isAgg191
  z35 := Try.sizeOf191
  v35 := Try.zeroValue191
  t36 := Try.underlying192
  a36 := Try.isAgg192
  z36 := Try.sizeOf192
  v36 := Try.zeroValue192
  t41 := Try.underlying195
  a41 := Try.isAgg195
  z41 := Try.sizeOf195
  v41 := Try.zeroValue195
  t44 := Try.underlying198
  a44 := Try.isAgg198
  z44 := Try.sizeOf198
  v44 := Try.zeroValue198
  t46 := Try.underlying54
  a46 := Try.isAgg54
  z46 := Try.sizeOf54
  v46 := Try.zeroValue54
  t53 := Try.underlying199
  a53 := Try.isAgg199
  z53 := Try.sizeOf199
  v53 := Try.zeroValue199
  t57 := Try.underlying202
  a57 := Try.isAgg202
  z57 := Try.sizeOf202
  v57 := Try.zeroValue202
  t63 := Try.underlying204
  a63 := Try.isAgg204
  z63 := Try.sizeOf204
  v63 := Try.zeroValue204
  t64 := Try.underlying130
  a64 := Try.isAgg130
  z64 := Try.sizeOf130
  v64 := Try.zeroValue130 }
theorem Try.sortsA (m : Nat) : AnyZI.SortsIn Try.prog Try.sortedA_ren Fence.wide m :=
  ⟨fun blk off cap ss W hH hblk hsz => callsIn_wide.2 (AnyM.slices_Sort_int Try.sortA blk off cap ss W hH hblk hsz),
   fun p cap W => callsIn_wide.2 (AnyM.slices_Sort_int_none Try.sortA p cap W)⟩
set_option maxHeartbeats 1000000 in
theorem Try.graph_Ids {H : Type} (gB gO b nn : Nat) (D0 : DataW H) (R : Value -> Option (DataW H × List MemPlace)) (w : World) (hg : w.cell? ⟨gB, gO, none⟩ = some (.map (some b))) (hown : w.ownsMap Try.prog 3 R b nn D0) (hmax : Maps.size D0 <= maxLen) (hbytes : Maps.size D0 * 8 <= 140737488355328) :
    Calls Try.prog 25 #[.pointer (some ⟨gB, gO, none⟩)] w fun e w' => ∃ (v : Value) (ss : List Int), e = .returned v /\ ss.Perm (intKeys D0) /\
      w'.ownsRow w.heap.size 3 1 v ss.length ((ss.mergeSort (fun x y => decide (x <= y))).map encZ) /\ (v = .slice none 0 0 ↔ ss = []) /\ RowKit.Below w.heap.size w w' := by
  refine (callsIn_wide (n := 6)).1 ?_
  have hbl := hown.lt
  have hseq : SeqGives Fence.wide 2 Try.prog 106 #[.pointer (some ⟨w.heap.size, 0, none⟩)] encZ (fun ss => ss.Perm (intKeys D0)) (Maps.size D0) (w.alloc (.cells #[.map (some b)] 110)) :=
    AnyZI.keys_gives (ρ := Try.keysA_ren) { Try.keysA with } Fence.wide _ trivial rfl (by omega) w.heap.size b nn D0 _ (by simp) (by simp) (by
      obtain ⟨es, clock, hb, Ft, hs, hD⟩ := hown
      exact ⟨es, clock, (Below.heap_alloc _ _ b hbl).trans hb, Ft, hs, hD⟩)
  have cK : ∀ mb W, CallsIn Fence.wide 5 Try.prog 71 #[.map mb] W fun e w' => e = .returned (.func (.func 106) #[] #[.pointer (some ⟨W.heap.size, 0, none⟩)]) /\ w' = W.alloc (.cells #[.map mb] 110) := fun mb W => AnyZI.keys_in Try.keysA Fence.wide 5 trivial rfl mb W
  have cS := AnyZI.sorted_in Try.sortedA Fence.wide 5 trivial trivial trivial trivial rfl (by omega) (Try.sortsA _) (enters_of Try.func105 (by kernel_rfl) rfl) 106 #[.pointer (some ⟨w.heap.size, 0, none⟩)] trivial (enters_of Try.func106 (by kernel_rfl) rfl) _ _ hmax hbytes _ hseq
  change CallsIn _ _ Try.prog 70 _ _ _ at cS
  have hfK : Fence.wide.fn 71 := trivial
  have hfS : Fence.wide.fn 70 := trivial
  refine callsIn_of_wp Try.func25 rfl trivial ?_ rfl
  simp only [Try.ntmps25, List.size_toArray, List.length_cons, List.length_nil, Nat.reduceAdd, Nat.reduceSub, Array.replicate_succ, Array.replicate_zero, List.push_toArray, List.append_toArray, List.nil_append, List.cons_append]
  gi_wp2_with (first
    | (gi_at_call 71; refine (cK _ _).mono ?_; rintro e w' ⟨rfl, rfl⟩)
    | (gi_at_call 70; refine cS.mono ?_; rintro e w' ⟨v, ss, rfl, hS, hrow, hnil, hb⟩))
  go_ret
  exact ⟨v, ss, rfl, hS, ownsRow_base_a hrow (by simp), hnil, ((Below.refl _ w).alloc (Nat.le_refl _) _).trans (hb.mono (by simp))⟩
end Go.Proofs
namespace Go.Abs
open Go
variable {O : Type} {RO : O -> Loc -> (Nat -> Option Obj) -> Prop} {P : Program}
theorem Post.adopt {ρ : Inj} {fp : Fp} {J : AH O} {w w' : World} (h : Rel RO P ρ fp J w) (hk : ∀ B : Nat, B < w.heap.size -> w'.heap[B]? = w.heap[B]?) (hs : w.heap.size <= w'.heap.size) (k1 : w'.os = w.os) (k2 : w'.tape = w.tape) (k3 : w'.output = w.output)
    {nid : Nat} (hn : nid < J.next) (h1 : ρ nid = none) (ob : Obj) (x0 : Blk O) (L0 : Loc) (hB : w.heap.size <= L0.B) (hob : w'.heap[L0.B]? = some ob) (hx0 : ∀ ρ' : Inj, ρ.le ρ' -> ∀ w', BlkRel RO P ρ' (one L0.B ob) L0 w' x0) :
    ∃ ρ' fp', ρ' nid = some L0 /\ Post RO P (fun b => b ≠ nid) ρ fp J w ρ' fp' (J.put nid x0) w' := by
  let ρ' : Inj := ⟨fun b => if b = nid then some L0 else ρ b, ρ.fz⟩
  let fp' : Fp := fun b => if b = nid then one L0.B ob else fp b
  have hle : ρ.le ρ' := ⟨fun b L hb => by
    have : b ≠ nid := fun e => by rw [e, h1] at hb; cases hb
    simp [ρ', this, hb], fun _ _ _ hu => hu⟩
  have hfn : fp nid = fun _ => none := h.dead nid (.inr h1)
  have hnew : ∀ b B, fp b B ≠ none -> B ≠ L0.B := fun b B hb e => by have := h.size hb; omega
  have put_same : (J.put nid x0).blk nid = some x0 := by show (bif Nat.beq nid nid then some x0 else _) = _; simp
  have put_other : ∀ b, b ≠ nid -> (J.put nid x0).blk b = J.blk b := fun b hb => AH.put_ne hb
  refine ⟨ρ', fp', by simp [ρ'], ⟨⟨?_, ?_, ?_, ?_, ?_, ?_⟩, ⟨k1, k2, k3, hs, fun B hB _ => hk B hB⟩, ?_, ?_, hle, fun b hb => by simp [ρ', hb], fun b hb _ h0 => by rw [put_other b hb]; exact h0, Nat.le_refl _⟩⟩
  · intro b hb
    have hb' : J.next <= b := hb
    have : b ≠ nid := by omega
    obtain ⟨a, c⟩ := h.next b hb'
    refine ⟨by simp [ρ', this, a], by rw [put_other b this]; exact c⟩
  · intro b x L hx hL
    by_cases hbn : b = nid
    · subst hbn
      rw [put_same] at hx; cases hx
      simp [ρ'] at hL; subst hL
      have := hx0 ρ' hle w'
      simpa [fp'] using this
    · rw [put_other b hbn] at hx
      simp [ρ', hbn] at hL
      simp only [fp', hbn, if_false]
      exact (h.blk b x L hx hL).mono hle
  · intro b hb
    by_cases hbn : b = nid
    · subst hbn
      rw [put_same] at hb
      simp [ρ'] at hb
    · simp only [fp', hbn, if_false]
      rw [put_other b hbn] at hb
      simp [hbn, ρ'] at hb
      exact h.dead b hb
  · intro b B o hb
    by_cases hbn : b = nid
    · simp only [fp', hbn, if_true] at hb
      obtain ⟨rfl, rfl⟩ := one_some hb
      exact hob
    · simp only [fp', hbn, if_false] at hb
      rw [hk B (h.size (b := b) (by simp [hb]))]
      exact h.has b B o hb
  · intro b c B hb hc'
    by_cases hbn : b = nid <;> by_cases hcn : c = nid
    · omega
    · simp only [fp', hbn, if_true] at hb
      simp only [fp', hcn, if_false] at hc'
      have := one_ne hb; exact absurd this (hnew _ _ hc')
    · simp only [fp', hcn, if_true] at hc'
      simp only [fp', hbn, if_false] at hb
      have := one_ne hc'; exact absurd this (hnew _ _ hb)
    · simp only [fp', hbn, hcn, if_false] at hb hc'
      exact h.disj b c B hb hc'
  · intro B o u hu
    obtain ⟨g1, g2⟩ := h.fz B o u hu
    have hlt := cell_size g1
    refine ⟨by rw [World.cell?_of_block (w := w) (hk B hlt)]; exact g1, fun c => ?_⟩
    by_cases hcn : c = nid
    · simp only [fp', hcn, if_true, one]
      rw [if_neg (by omega)]
    · simp only [fp', hcn, if_false]
      exact g2 c
  · intro b B hB' hb
    by_cases hbn : b = nid
    · simp only [fp', hbn, if_true] at hb
      have := one_ne hb; omega
    · simp only [fp', hbn, if_false] at hb
      exact ⟨b, hb⟩
  · exact fun B o u hu _ => .inr ⟨o, u, hu⟩
end Go.Abs
namespace Go.Abs.Try
open Go Go.Abs Go.Proofs Go.Sort Go.RowKit Go.Maps
def keysM : List (AV × AV) -> Option (List Int)
  | [] => some []
  | (.i .i64 n, _) :: l => (keysM l).map (n :: ·)
  | _ => none
def nodupB : List Int -> Bool
  | [] => true
  | x :: l => !l.contains x && nodupB l
theorem nodupB_spec : ∀ {l : List Int}, nodupB l = true -> l.Nodup
  | [], _ => List.nodup_nil
  | x :: l, h => by
    simp only [nodupB, Bool.and_eq_true, Bool.not_eq_true'] at h
    refine List.nodup_cons.2 ⟨fun hm => ?_, nodupB_spec h.2⟩
    have := h.1
    rw [List.contains_eq_mem] at this
    simp [hm] at this
theorem keysM_rel {ρ : Inj} : ∀ {es : List (AV × AV)} {xs : List MapEntry} {ks : List Int}, keysM es = some ks -> EntsRel ρ es xs -> xs.map (·.key) = ks.map (Value.int .i64)
  | [], [], ks, h, _ => by cases h; rfl
  | q :: es, x :: xs, ks, h, ⟨a, b, c⟩ => by
    obtain ⟨q1, q2⟩ := q
    unfold keysM at h
    split at h
    · next e => cases e
    · next n v l e =>
      cases e
      obtain ⟨ys, h1, rfl⟩ := Option.map_eq_some_iff.1 h
      simp only [List.map_cons, keysM_rel h1 c]
      rw [a.i_inv]
    · cases h
  | [], _ :: _, _, _, h => h.elim
  | _ :: _, [], _, _, h => h.elim
noncomputable def graph_Graph__Ids {O : Type} : Sm O := fun xs J =>
  match xs with
  | [.p (some (bg, o))] => (J.ld bg o).bind fun v => match v with
    | .mp (some m) => (entsOf J (.mp (some m))).bind fun es => (keysM es).bind fun ks =>
        bif Nat.ble ks.length 1000000 && nodupB ks && ks.all (fun k => decide (-9223372036854775808 <= k) && decide (k <= 9223372036854775807)) then
          bif Nat.beq ks.length 0 then some (.sl .nil 0, J)
          else some (.sl (.loc (.n J.next) 0 1) ks.length, (J.bump 1).put J.next (.cells true 3 ((ks.mergeSort fun x y => decide (x <= y)).map (.i .i64))))
        else none
    | _ => none
  | _ => none
theorem graph_Graph__Ids_ent : Entered Try.prog 25 := Try.call25
theorem mapAt {O : Type} {RO : O -> Loc -> (Nat -> Option Obj) -> Prop} {ρ : Inj} {fp : Fp} {J : AH O} {w : World} (hr : Rel RO Try.prog ρ fp J w) {bg : Bid} {o m : Nat} {es : List (AV × AV)} {u : Value} (hu : VRel ρ (.p (some (bg, o))) u) (hv : J.ld bg o = some (.mp (some m))) (he : entsOf J (.mp (some m)) = some es) :
    ∃ gB gO L arr clock, u = .pointer (some ⟨gB, gO, none⟩) /\ w.cell? ⟨gB, gO, none⟩ = some (.map (some L)) /\ w.heap[L]? = some (.map arr clock) /\ EntsRel ρ es arr.toList /\ (∀ x ∈ arr.toList, x.born < clock) /\ (arr.toList.map (·.born)).Nodup := by
  obtain ⟨L0, hL0, rfl⟩ := hu.p_inv
  obtain ⟨_, c, h1, h2⟩ := hr.ld hv hL0
  rcases ents_spec hr he h2 with ⟨e, _⟩ | ⟨b, L, arr, clock, e1, e2, hL, ⟨st, hb, _, s1, s2, s3⟩, g1, g2, g3⟩
  · cases e
  · subst e2
    refine ⟨L0.B, L0.O + o, L.B, arr, clock, rfl, h1, g2, g3, fun x hx => s2 x.born (by rw [<- s1]; exact List.mem_map.2 ⟨x, hx, rfl⟩), by rw [s1]; exact s3⟩
theorem graph_Graph__Ids_sound {O : Type} {RO : O -> Loc -> (Nat -> Option Obj) -> Prop} : FSound RO Try.prog 25 (graph_Graph__Ids (O := O)) := by
  intro xs J v J' hs ρ fp w args hx hr
  unfold graph_Graph__Ids at hs
  split at hs
  · rename_i bg o
    obtain ⟨u, rfl, hu⟩ : ∃ u, args = #[u] /\ VRel ρ (.p (some (bg, o))) u := by
      obtain ⟨l⟩ := args
      cases hx with
      | cons _ u _ us h1 h2 =>
        cases h2
        exact ⟨u, rfl, h1⟩
    obtain ⟨v0, h1, hs⟩ := Option.bind_eq_some_iff.1 hs
    split at hs
    · rename_i m
      obtain ⟨es, h2, hs⟩ := Option.bind_eq_some_iff.1 hs
      obtain ⟨ks, h3, hs⟩ := Option.bind_eq_some_iff.1 hs
      obtain ⟨hc, hs'⟩ := bif_some hs
      clear hs
      simp only [Bool.and_eq_true] at hc
      obtain ⟨⟨c1, c2⟩, c3⟩ := hc
      have c1 := Nat.le_of_ble_eq_true c1
      have c2 := nodupB_spec c2
      obtain ⟨gB, gO, B, arr, clock, rfl, k1, k2, k3, k4, k5⟩ := mapAt hr hu h1 h2
      have hkeys := keysM_rel h3 k3
      have hlen : arr.size = ks.length := by have := congrArg List.length hkeys; simpa using this
      let R : Value -> Option (DataW Unit × List MemPlace) := fun _ => some (.nil, [])
      have key : ∀ x ∈ arr.toList, ∃ n : Int, x.key = .int .i64 n /\ n ∈ ks /\ keyOf Try.prog 3 x.key = some (.int .i64 n) := fun x hx => by
        have : x.key ∈ ks.map (Value.int .i64) := by rw [<- hkeys]; exact List.mem_map.2 ⟨x, hx, rfl⟩
        obtain ⟨n, hn, he⟩ := List.mem_map.1 this
        refine ⟨n, he.symm, hn, ?_⟩
        rw [<- he]
        have := List.all_eq_true.1 c3 n hn
        simp only [Bool.and_eq_true, decide_eq_true_eq] at this
        exact keyOf_int_mk Try.underlying3 (by simp only [Lit.wf, Bool.and_eq_true, decide_eq_true_eq]; exact ⟨by have := this.1; simp [IntKind.min, IntKind.bits, IntKind.signed]; omega, by have := this.2; simp [IntKind.max, IntKind.bits, IntKind.signed]; omega⟩)
      have Ft : WideElems.Fit Try.prog 3 R arr clock := ⟨by unfold maxLen; omega, ⟨k4, k5, by rw [hkeys]; exact c2.map _ fun a b hab e => hab (by simpa using e)⟩, fun x hx => by
        obtain ⟨n, _, _, h⟩ := key x hx
        exact ⟨_, WideElems.rd_mk (born := x.born) h rfl⟩⟩
      have hown : w.ownsMap Try.prog 3 R B arr.size _ := ⟨arr, clock, k2, Ft, Nat.le_refl _, rfl⟩
      have hperm : (intKeys (.map ((arr.toList.map (WideElems.rg Try.prog 3 R)).foldr DataW.insert []))).Perm ks := by
        have p1 := (WideShapes.sorted_perm (arr.toList.map (WideElems.rg Try.prog 3 R))).map fun p => intOf p.1
        refine p1.trans ?_
        rw [List.map_map]
        have : arr.toList.map ((fun p => intOf p.1) ∘ WideElems.rg Try.prog 3 R) = ks := by
          have inj : ∀ (l : List MapEntry) (zs : List Int), (∀ x ∈ l, x ∈ arr.toList) -> l.map (·.key) = zs.map (Value.int .i64) -> l.map ((fun p => intOf p.1) ∘ WideElems.rg Try.prog 3 R) = zs := by
            intro l
            induction l with
            | nil => intro zs _ h; cases zs with | nil => rfl | cons _ _ => cases h
            | cons x l ih =>
              intro zs hl h
              cases zs with
              | nil => cases h
              | cons z zs =>
                simp only [List.map_cons, List.cons.injEq] at h
                obtain ⟨n, e1, _, h3⟩ := key x (hl x (by simp))
                have e2 : n = z := by have := e1.symm.trans h.1; simpa using this
                subst e2
                simp only [List.map_cons, Function.comp, WideElems.rg_of (WideElems.rd_mk (born := x.born) (R := R) h3 rfl)]
                rw [ih zs (fun y hy => hl y (by simp [hy])) h.2]
                rfl
          exact inj arr.toList ks (fun _ h => h) hkeys
        rw [this]
      have hsz : Maps.size (.map ((arr.toList.map (WideElems.rg Try.prog 3 R)).foldr DataW.insert [])) = ks.length := by
        have := hperm.length_eq
        simpa [intKeys, Maps.size] using this
      refine (Try.graph_Ids gB gO B arr.size _ R w k1 hown (by rw [hsz]; unfold maxLen; omega) (by rw [hsz]; omega)).mono ?_
      rintro x w' ⟨v', ss, rfl, p1, hrow, hnil, hb⟩
      have pk := p1.trans hperm
      have hsort : ss.mergeSort (fun x y => decide (x <= y)) = ks.mergeSort fun x y => decide (x <= y) := mergeSort_of_perm_i pk
      have hl : ss.length = ks.length := pk.length_eq
      have more : Post RO Try.prog (· < J.next) ρ fp J w ρ fp J w' := Post.more hr (fun B hB => hb.block B hB) hb.size hb.os hb.tape hb.output
      cases hz : Nat.beq ks.length 0 with
      | true =>
        rw [hz] at hs'
        cases hs'
        have : ss = [] := List.eq_nil_of_length_eq_zero (by rw [hl]; exact Nat.eq_of_beq_eq_true hz)
        rw [hnil.2 this]
        exact ⟨ρ, fp, _, rfl, .sln, more⟩
      | false =>
        rw [hz] at hs'
        cases hs'
        have hk0 : ks.length ≠ 0 := fun e => by rw [e] at hz; cases hz
        rcases hrow.2 with ⟨_, h0⟩ | ⟨g, cap, cur, rfl, hg1, hg2, hg3, hg4, hg5, hg6⟩
        · omega
        rw [hsort] at hg6
        obtain ⟨ρ', fp', q1, q2⟩ := Post.adopt (J := J.bump 1) (nid := J.next) (hr.bump 1) (fun B hB => hb.block B hB) hb.size hb.os hb.tape hb.output (Nat.lt_succ_self _) (hr.next _ (Nat.le_refl _)).1 (.cells cur 3) (.cells true 3 ((ks.mergeSort fun x y => decide (x <= y)).map (.i .i64))) ⟨g, 0, cur.size, 1⟩ hg1 hg2 (fun ρ' hle w' => ⟨cur, rfl, by simp, by
            have := congrArg List.length hg6
            simp [List.length_mergeSort] at this ⊢
            omega, rfl, fun i v hv => by
            rw [List.getElem?_map] at hv
            obtain ⟨z, hz1, rfl⟩ := Option.map_eq_some_iff.1 hv
            refine ⟨rfl, .int .i64 z, ?_, .i _ _⟩
            have : ((ks.mergeSort fun x y => decide (x <= y)).map encZ)[i]? = some (.int .i64 z) := by rw [List.getElem?_map, hz1]; rfl
            rw [<- hg6, List.getElem?_take] at this
            split at this
            · simpa using this
            · cases this⟩)
        refine ⟨ρ', fp', _, rfl, ?_, Post.of_bump (q2.mono fun b hb => Nat.ne_of_lt hb)⟩
        have := VRel.sl (ρ := ρ') (.n J.next) 0 ss.length cap ⟨g, 0, cur.size, 1⟩ (.n _ _ q1) hg3 hg4 (by simp; omega)
        rw [hl] at this
        rw [hl]
        exact this
    · cases hs
  · cases hs
end Go.Abs.Try
