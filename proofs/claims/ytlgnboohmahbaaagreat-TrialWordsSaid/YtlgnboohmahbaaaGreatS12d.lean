/-
  slices.Delete at a slice of slices is a sound step. No conditions.
-/
import Derived.Test.YtlgnboohmahbaaaGreatAbsExtern
import Derived.Test.YtlgnboohmahbaaaGreatS12v
import Derived.Sort.WalkB12
import Derived.WalkKit
set_option linter.unusedVariables false
set_option linter.unusedSimpArgs false
set_option linter.constructorNameAsVariable false
set_option linter.unusedSimpArgs false
set_option linter.unusedVariables false
set_option maxHeartbeats 2000000
namespace Go.Abs
open Go Go.Proofs Go.Sort
section
variable {O : Type} {RO : O → Loc → (Nat → Option Obj) → Prop} {P : Program}
theorem Post.setW {S : Nat → Prop} {ρ : Inj} {fp : Fp} {σ : AH O} {w : World} (h : Rel RO P ρ fp σ w) {b : Nat} {el : TypeId} {cs : List AV} {L : Loc} {arr : Array Value}
  (hb : σ.blk b = some (.cells true el cs)) (hL : ρ b = some L) (ha : w.heap[L.B]? = some (.cells arr el (0, 0)))
  (cs' : List AV) (arr' : Array Value) (hs : arr'.size = arr.size) (hl : cs'.length ≤ L.size)
  (hc : ∀ (i : Nat) (v : AV), cs'[i]? = some v → v.isOne = true ∧ ∃ u, arr'[L.O + i]? = some u ∧ VRel ρ v u) (hcl : cs'.length = cs.length) {w' : World} (hw1 : w'.heap[L.B]? = some (.cells arr' el (0, 0))) (hwo : ∀ B, B ≠ L.B → w'.heap[B]? = w.heap[B]?) (hsz : w'.heap.size = w.heap.size) (k1 : w'.os = w.os) (k2 : w'.tape = w.tape) (k3 : w'.output = w.output) :
  ∃ fp', Post RO P S ρ fp σ w ρ fp' (σ.put b (.cells true el cs')) w' := by
 obtain ⟨arr0, h1, h2, h3, h4, h5, _⟩ := h.own hb hL
 obtain rfl : arr0 = arr := by rw [ha] at h2; cases h2; rfl
 let fp' : Fp := fun q => if q = b then one L.B (.cells arr' el (0, 0)) else fp q
 have hfb : ∀ q B, fp q B ≠ none → B = L.B → q = b := fun q B hq e => h.disj q b B hq (by rw [h1, e, one_self]; simp)
 have hlt : b < σ.next := by
  rcases Nat.lt_or_ge b σ.next with hh | hh
  ·exact hh
  ·rw [(h.next b hh).2] at hb; cases hb
 refine ⟨fp', ⟨⟨?_, ?_, ?_, ?_, ?_, ?_⟩, ⟨k1, k2, k3, by omega, ?_⟩, ?_, ?_, Inj.le_refl _, fun _ _ => rfl, fun q _ _ h0 => by
  have : q ≠ b := fun e => by rw [e, hb] at h0; cases h0
  simp [this, h0], Nat.le_refl _⟩⟩
 ·intro q hq
  have hq' : σ.next ≤ q := hq
  obtain ⟨x, y⟩ := h.next q hq'
  exact ⟨x, by simp [y]; omega⟩
 ·intro q x L' hx hL'
  by_cases hqb : q = b
  ·subst hqb
   simp at hx; subst hx
   rw [hL] at hL'; cases hL'
   exact ⟨arr', by simp [fp'], by omega, hl, h5, hc, fun q => by have := h.alone hb hL q ha; omega⟩
  ·simp [hqb] at hx
   simp only [fp', hqb, if_false]
   exact (h.blk q x L' hx hL').mono (Inj.le_refl _)
 ·intro q hq
  by_cases hqb : q = b
  ·subst hqb; simp [hL] at hq
  ·simp only [fp', hqb, if_false]
   simp [hqb] at hq
   exact h.dead q hq
 ·intro q B o hq
  by_cases hqb : q = b
  ·simp only [fp', hqb, if_true] at hq
   obtain ⟨rfl, rfl⟩ := one_some hq
   exact hw1
  ·simp only [fp', hqb, if_false] at hq
   rw [hwo _ fun e => hqb (hfb q B (by simp [hq]) e)]
   exact h.has q B o hq
 ·intro q c B hq hc'
  have key : ∀ q, fp' q B ≠ none → fp q B ≠ none := by
   intro q hq
   by_cases hqb : q = b
   ·simp only [fp', hqb, if_true] at hq
    rw [hqb, h1, one_ne hq, one_self]; simp
   ·simpa only [fp', hqb, if_false] using hq
  exact h.disj q c B (key q hq) (key c hc')
 ·intro B o u hu
  obtain ⟨g1, g2⟩ := h.fz B o u hu
  have hne : B ≠ L.B := fun e => by
   have := g2 b
   rw [h1, e, one_self] at this; cases this
  refine ⟨by rw [World.cell?_of_block (w := w) (hwo _ hne)]; exact g1, fun c => ?_⟩
  by_cases hcb : c = b
  ·simp only [fp', hcb, if_true, one]
   rw [if_neg hne]
  ·simp only [fp', hcb, if_false]
   exact g2 c
 ·intro B hB hn
  refine hwo _ fun e => ?_
  have := hn b
  rw [h1, e, one_self] at this; cases this
 ·intro q B hB hq
  by_cases hqb : q = b
  ·simp only [fp', hqb, if_true] at hq
   exact ⟨b, by rw [h1, one_ne hq, one_self]; simp⟩
  ·simp only [fp', hqb, if_false] at hq
   exact ⟨q, hq⟩
 ·exact fun B o u hu _ => .inr ⟨o, u, hu⟩
def AV.isSl : AV → Bool
 | .sl _ _ => true
 | _ => false
def svOf : Value → SV
 | .slice a n c => ⟨a, n, c⟩
 | _ => SV.nil
theorem sv_slice {ρ : Inj} {v : AV} {u : Value} (h : VRel ρ v u) (hv : v.isSl = true) : u = encSl (svOf u) := by
 cases v with
 | sl a n => obtain ⟨a', cap, rfl, _⟩ := h.sl_inv; rfl
 | _ => cases hv
def delRow (row : List AV) (i j : Nat) : List AV := row.take i ++ row.drop j ++ List.replicate (j - i) (.sl .nil 0)
noncomputable def delS {O : Type} : Sm O := fun xs σ => match xs with
 | [.sl (.loc (.n k) o e) n, .i .i64 i, .i .i64 j] => match σ.blk k with
  | some (.cells true el cs) => bif (Nat.beq e 1 && !Nat.beq n 0) && (decide (0 ≤ i) && (decide (i ≤ j) && decide (j ≤ (n : Int)))) && (Nat.ble (o + n) cs.length && ((cs.drop o).take n).all AV.isSl) then
    some (.sl (.loc (.n k) o e) (n - (j.toNat - i.toNat)), σ.put k (.cells true el (cs.take o ++ delRow ((cs.drop o).take n) i.toNat j.toNat ++ cs.drop (o + n)))) else none
  | _ => none
 | _ => none
theorem three3 {ρ : Inj} {x y z : AV} {args : Array Value} (h : VRels ρ [x, y, z] args.toList) : ∃ u v w, args = #[u, v, w] ∧ VRel ρ x u ∧ VRel ρ y v ∧ VRel ρ z w := by
 obtain ⟨l⟩ := args
 cases h with
 | cons _ u _ us h1 h2 =>
  cases h2 with
  | cons _ v _ vs h3 h4 =>
   cases h4 with
   | cons _ w _ ws h5 h6 => cases h6; exact ⟨u, v, w, rfl, h1, h3, h5⟩
theorem bif_some' {A : Type} {c : Bool} {x : Option A} {y : A} (h : (bif c then x else none) = some y) : c = true ∧ x = some y := by
 cases c with
 | true => exact ⟨rfl, h⟩
 | false => cases h
theorem delS_sound {f : FuncId} (L : ∀ (blk off cap i j : Nat) (d : Array SV) (w : World), Holds encSl w blk off d → d.size ≤ cap → cap ≤ 9223372036854775807 → i ≤ j → j ≤ d.size → Calls P f #[.slice (some ⟨blk, off, none⟩) d.size cap, .int .i64 i, .int .i64 j] w fun e w' => e = .returned (.slice (some ⟨blk, off, none⟩) (d.size - (j - i)) cap) ∧ ∃ q, w' = putRow encSl (Go.Sort.ahead w q) blk off (d.toList.take i ++ d.toList.drop j ++ List.replicate (j - i) SV.nil).toArray) : FSound RO P f (delS (O := O)) := by
 intro xs σ v σ' hs ρ fp w args hx hr
 unfold delS at hs
 split at hs
 ·rename_i k o e n i j
  split at hs
  ·rename_i el cs hb
   obtain ⟨hc, hs⟩ := bif_some' hs
   simp only [Bool.and_eq_true, Bool.not_eq_true', decide_eq_true_eq] at hc
   obtain ⟨⟨⟨he, hn0⟩, hi, hij, hj⟩, hon, hall⟩ := hc
   have he := Nat.eq_of_beq_eq_true he
   subst he
   have hn0 : n ≠ 0 := fun h => by subst h; cases hn0
   have hon := Nat.le_of_ble_eq_true hon
   simp only [Option.some.injEq, Prod.mk.injEq] at hs
   obtain ⟨rfl, rfl⟩ := hs
   obtain ⟨u1, u2, u3, rfl, g1, g2, g3⟩ := three3 hx
   have := g2.i_inv
   subst this
   have := g3.i_inv
   subst this
   obtain ⟨LL, cap, hL, rfl, hes, hcap, hmax, hroom⟩ : ∃ (LL : Loc) (cap : Nat), ρ k = some LL ∧ u1 = .slice (some ⟨LL.B, LL.O + o, none⟩) n cap ∧ LL.es = 1 ∧ n ≤ cap ∧ cap ≤ maxLen ∧ o + cap ≤ LL.size := by
    generalize hes : (1 : Nat) = es at g1
    cases g1 with
    | sl0 => exact absurd rfl hn0
    | sl b o n cap L0 h h1 h2 h3 => exact ⟨L0, cap, h.n_inv, rfl, by first | rfl | omega, h1, h2, by rw [← hes, Nat.mul_one] at h3; exact h3⟩
   obtain ⟨arr, p1, p2, p3, p4, p5, p6⟩ := hr.own hb hL
   obtain ⟨I, rfl⟩ : ∃ I : Nat, i = I := ⟨i.toNat, by omega⟩
   obtain ⟨J, rfl⟩ : ∃ J : Nat, j = J := ⟨j.toNat, by omega⟩
   simp only [Int.toNat_natCast]
   have hIJ : I ≤ J := by omega
   have hJn : J ≤ n := by omega
   generalize hrw : (cs.drop o).take n = row at *
   have lrow : row.length = n := by rw [← hrw, List.length_take, List.length_drop]; omega
   obtain ⟨dl, hdl⟩ : ∃ y, y = ((arr.toList.drop (LL.O + o)).take n).map svOf := ⟨_, rfl⟩
   have ldl : dl.length = n := by rw [hdl, List.length_map, List.length_take, List.length_drop, Array.length_toList]; omega
   have hrow : ∀ (t : Nat) (v : AV), row[t]? = some v → ∃ s, dl[t]? = some s ∧ arr[LL.O + o + t]? = some (encSl s) ∧ v.isOne = true ∧ VRel ρ v (encSl s) := by
    intro t v hv
    have ht : t < n := by have := (List.getElem?_eq_some_iff.1 hv).1; omega
    have hv2 : cs[o + t]? = some v := by
     rw [← hrw, List.getElem?_take_of_lt ht, List.getElem?_drop] at hv; exact hv
    obtain ⟨h1, u, h2, h3⟩ := p6 _ _ hv2
    have hsl : v.isSl = true := List.all_eq_true.1 hall v (List.mem_of_getElem? hv)
    have hu := sv_slice h3 hsl
    refine ⟨svOf u, ?_, by rw [← hu, Nat.add_assoc]; exact h2, h1, by rw [← hu]; exact h3⟩
    rw [hdl, List.getElem?_map, List.getElem?_take_of_lt ht, List.getElem?_drop, Array.getElem?_toList, Nat.add_assoc, h2]; rfl
   have hH : Holds encSl w LL.B (LL.O + o) dl.toArray := by
    intro t ht
    have ht : t < n := by simpa [ldl] using ht
    obtain ⟨s, s1, s2, _⟩ := hrow t row[t] (List.getElem?_eq_getElem (by omega))
    have e1 : dl.toArray[t]! = s := by
     rw [getElem!_pos dl.toArray t (by simp; omega)]
     have := (List.getElem?_eq_some_iff.1 s1).2
     simpa using this
    refine ⟨?_, by simp [World.frozen?, p2]⟩
    rw [e1]
    simp only [World.cell?, p2]
    simpa using s2
   have H := L LL.B (LL.O + o) cap I J dl.toArray w hH (by simp; omega) (Nat.le_trans hmax (by decide)) hIJ (by simp; omega)
   have hsz : dl.toArray.size = n := by simp [ldl]
   rw [hsz] at H
   refine H.mono ?_
   rintro e w' ⟨rfl, q, rfl⟩
   generalize hD : (dl.toArray.toList.take I ++ dl.toArray.toList.drop J ++ List.replicate (J - I) SV.nil) = D
   have lD : D.length = n := by rw [← hD]; simp; omega
   have lR : (delRow row I J).length = n := by unfold delRow; simp; omega
   have hrow' : ∀ (t : Nat) (v : AV), (delRow row I J)[t]? = some v → ∃ s, D[t]? = some s ∧ v.isOne = true ∧ VRel ρ v (encSl s) := by
    intro t v hv
    have ht : t < n := by have := (List.getElem?_eq_some_iff.1 hv).1; omega
    unfold delRow at hv
    rw [← hD, List.toList_toArray]
    rw [List.append_assoc] at hv ⊢
    rcases Nat.lt_or_ge t I with h | h
    ·rw [List.getElem?_append_left (by simp; omega), List.getElem?_take_of_lt h] at hv
     obtain ⟨s, s1, _, s2⟩ := hrow t v hv
     exact ⟨s, by rw [List.getElem?_append_left (by simp; omega), List.getElem?_take_of_lt h]; exact s1, s2⟩
    ·have l1 : (row.take I).length = I := by simp; omega
     have l2 : (dl.take I).length = I := by simp; omega
     rw [List.getElem?_append_right (by omega), l1] at hv
     rw [List.getElem?_append_right (by omega), l2]
     rcases Nat.lt_or_ge (t - I) (n - J) with h' | h'
     ·rw [List.getElem?_append_left (by simp; omega), List.getElem?_drop] at hv
      obtain ⟨s, s1, _, s2⟩ := hrow _ v hv
      exact ⟨s, by rw [List.getElem?_append_left (by simp; omega), List.getElem?_drop]; exact s1, s2⟩
     ·have l3 : (row.drop J).length = n - J := by simp [lrow]
      have l4 : (dl.drop J).length = n - J := by simp [ldl]
      rw [List.getElem?_append_right (by omega), l3] at hv
      rw [List.getElem?_append_right (by omega), l4]
      rw [List.getElem?_replicate] at hv ⊢
      split at hv
      ·rename_i hlt
       cases hv
       exact ⟨SV.nil, by rw [if_pos hlt], rfl, .sln⟩
      ·cases hv
   have hcell : ∀ x : Nat, (putCells encSl (LL.O + o) D.toArray arr)[x]? = if LL.O + o ≤ x ∧ x < LL.O + o + n then (arr[x]?).map fun _ => encSl D.toArray[x - (LL.O + o)]! else arr[x]? := by
    intro x
    unfold putCells
    rw [Array.getElem?_mapIdx]
    have : D.toArray.size = n := by simp [lD]
    rw [this]
    split
    ·rename_i hx; cases arr[x]? <;> simp [hx]
    ·rename_i hx; cases arr[x]? <;> simp [hx]
   obtain ⟨fp', hp⟩ := Post.setW (S := (· < σ.next)) hr hb hL p2 (cs.take o ++ delRow row I J ++ cs.drop (o + n)) (putCells encSl (LL.O + o) D.toArray arr) (by simp [putCells]) (by simp [lR]; omega) (fun idx v hv => by
    rcases Nat.lt_or_ge idx o with h | h
    ·rw [List.append_assoc, List.getElem?_append_left (by simp; omega), List.getElem?_take_of_lt h] at hv
     obtain ⟨h1, u, h2, h3⟩ := p6 _ _ hv
     exact ⟨h1, u, by rw [hcell, if_neg (by omega)]; exact h2, h3⟩
    ·rcases Nat.lt_or_ge idx (o + n) with h' | h'
     ·rw [List.append_assoc, List.getElem?_append_right (by simp; omega), List.getElem?_append_left (by simp [lR]; omega)] at hv
      have lt : (cs.take o).length = o := by simp; omega
      rw [lt] at hv
      obtain ⟨s, s1, s2, s3⟩ := hrow' _ v hv
      have hx : LL.O + idx < arr.size := by omega
      refine ⟨s2, encSl s, ?_, s3⟩
      rw [hcell, if_pos (by omega), Array.getElem?_eq_getElem hx, Option.map_some]
      have e2 : LL.O + idx - (LL.O + o) = idx - o := by omega
      rw [e2, getElem!_pos D.toArray (idx - o) (by simp; omega)]
      have := (List.getElem?_eq_some_iff.1 s1).2
      simp [this]
     ·rw [List.getElem?_append_right (by simp [lR]; omega), List.getElem?_drop] at hv
      have e3 : o + n + (idx - (cs.take o ++ delRow row I J).length) = idx := by simp [lR]; omega
      rw [e3] at hv
      obtain ⟨h1, u, h2, h3⟩ := p6 _ _ hv
      exact ⟨h1, u, by rw [hcell, if_neg (by omega)]; exact h2, h3⟩) (by simp [lR]; omega)
    (w' := putRow encSl (Go.Sort.ahead w q) LL.B (LL.O + o) D.toArray)
    (by simp [putRow, mapBlock, Go.Sort.ahead, Array.getElem?_modify, p2, onCells])
    (fun B hB => by simp only [putRow, mapBlock, Go.Sort.ahead, Array.getElem?_modify]; rw [if_neg (fun h => hB h.symm)])
    (by simp [putRow, mapBlock, Go.Sort.ahead]) rfl rfl rfl
   refine ⟨ρ, fp', _, rfl, ?_, hp⟩
   have := VRel.sl (ρ := ρ) (.n k) o (n - (J - I)) cap LL (.n k LL hL) (by omega) hmax (by rw [hes, Nat.mul_one]; exact hroom)
   rw [hes] at this
   exact this
  ·cases hs
 ·cases hs
end
end Go.Abs
