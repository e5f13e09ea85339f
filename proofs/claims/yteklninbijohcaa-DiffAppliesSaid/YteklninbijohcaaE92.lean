/-
  A change held against the document's. No conditions.
-/
import Derived.Test.YteklninbijohcaaE91
set_option linter.unusedVariables false
set_option linter.unusedSimpArgs false
set_option linter.constructorNameAsVariable false
set_option linter.unusedSimpArgs false
set_option linter.unusedVariables false
set_option linter.unusedSectionVars false
set_option maxHeartbeats 4000000
set_option maxRecDepth 100000
namespace Go.Abs.Try
open Go Go.Abs
variable {O : Type}

/-- a form of one node, its slice in a block -/
theorem node_frz {s : AH O} {b el : Nat} {x : NV} {p q : SA} (hp : Ints .i64 p x.P) (hq : Ints .u64 q x.R) (h : s.blk b = some (.cells true el (x.cells p q))) :
    frzA 8 s (.agg [.sl (.loc (.n b) 0 7) 1, .sl .nil 0, .sl .nil 0]) = some (.agg [.sl (.loc (.f (x.cells p q)) 0 7) 1, .sl .nil 0, .sl .nil 0], (s.kill b).put b (.cells false el (x.cells p q))) := by
  have hf := flts_of_flat (NV.mk_ hp hq).flat
  exact frzA_agg (frzL_step (frzA_sl (d := 6) (b := b) (n := 1) (el := el) (cs := x.cells p q) (by decide) h (Nat.le_refl 7) (frzL_flt hf)) (frzL_step (frzA_flt rfl) (frzL_step (frzA_flt rfl) rfl)))
theorem node_at {x : NV} {p q : SA} (hp : Ints .i64 p x.P) (hq : Ints .u64 q x.R) : (⟨[x], [], []⟩ : FV).At (.agg [.sl (.loc (.f (x.cells p q)) 0 7) 1, .sl .nil 0, .sl .nil 0]) :=
  ⟨_, _, _, rfl, ⟨fun _ => rfl, x.cells p q, Imm.f rfl, by rw [List.flatMap_cons, List.flatMap_nil, List.append_nil]; exact NV.mk_ hp hq⟩, nil_ints _, nil_ints _⟩
theorem node_few {x : NV} (h : x.few) : (⟨[x], [], []⟩ : FV).few := ⟨by simp, fun y hy => by simp at hy; subst hy; exact h, by simp, by simp⟩
theorem is47_ok {σ : AH O} {c : CV} {p q r p' q' r' : SA} (fc : c.few) (hp : Ints .i64 p c.whole.P) (hq : Ints .u64 q c.whole.R) (hr : Ints .i64 r c.list) (hp' : Ints .i64 p' c.whole.P) (hq' : Ints .u64 q' c.whole.R) (hr' : Ints .i64 r' c.list) :
    Ok (law47_is [.agg (c.cells p q r), .agg (c.cells p' q' r')] σ) fun s => s.1 = .b true ∧ Ext σ s.2 := by
  have d1 := s_eqT (show c.kind = c.kind from rfl)
  have d2 := s_eqT (show c.at_ = c.at_ from rfl)
  have d3 := s_eqT (show c.slot = c.slot from rfl)
  have d4 := s_eqT (show c.to = c.to from rfl)
  have d5 := s_eqT (show c.word = c.word from rfl)
  simp (config := { maxSteps := 2000000 }) -implicitDefEqProofs (disch := (first | omega | rfl | assumption | (simp only [rsD]; first | omega | assumption))) only [law47_is, law47_is_c, CV.cells, d1, d2, d3, d4, d5, Nat.reduceAdd, Nat.reduceMul, Nat.reduceLT, Int.reduceToNat, Int.reduceAdd, Int.reduceSub, Int.reduceMul, rsU, rsC]
  refine Ok.step (same02 hr hr' fc.l fc.l) fun s g => ?_
  subst g
  have d6 := decide_eq_true (show c.list = c.list from rfl)
  simp (config := { maxSteps := 2000000 }) -implicitDefEqProofs (disch := (first | omega | rfl | assumption | (simp only [rsD]; first | omega | assumption))) only [decide_true, Nat.reduceAdd, Nat.reduceMul, Nat.reduceLT, Int.reduceToNat, Int.reduceAdd, Int.reduceSub, Int.reduceMul, rsU, rsC]
  generalize hs : AH.put _ (σ.next + 2 + 1) _ = s1
  have b1 : s1.blk (σ.next + 2) = some (.cells true T_canon_Node (c.whole.cells p q)) := by rw [← hs]; ((try simp only [rsD] at *); simp -implicitDefEqProofs (disch := (first | omega | rfl | assumption | (simp only [rsD]; first | omega | assumption))) only [s_bs, s_bn, s_kn, bump_blk]) <;> rfl
  have b2 : s1.blk (σ.next + 2 + 1) = some (.cells true T_haymowref40_Node (c.whole.cells p' q')) := by rw [← hs]; ((try simp only [rsD] at *); simp -implicitDefEqProofs (disch := (first | omega | rfl | assumption | (simp only [rsD]; first | omega | assumption))) only [s_bs, s_bn, s_kn, bump_blk]) <;> rfl
  have n1 : s1.next = σ.next + 4 := by rw [← hs]; rfl
  have lo : ∀ b, b < σ.next → s1.blk b = σ.blk b := fun b hb => by rw [← hs]; ((try simp only [rsD] at *); simp -implicitDefEqProofs (disch := (first | omega | rfl | assumption | (simp only [rsD]; first | omega | assumption))) only [s_bs, s_bn, s_kn, bump_blk])
  clear hs
  have f1 : fza (law40_Is (O := O)) [.agg [.sl (.loc (.n (σ.next + 2)) 0 7) 1, .sl .nil 0, .sl .nil 0], .agg [.sl (.loc (.n (σ.next + 2 + 1)) 0 7) 1, .sl .nil 0, .sl .nil 0]] s1 = law40_Is _ _ :=
    fza_eq (frzL_step (node_frz hp hq b1) (frzL_step (node_frz hp' hq' (by rw [s_bn (by omega), s_kn (by omega)]; exact b2)) rfl))
  rw [f1]
  refine Ok.step (is_ok (node_at hp hq) (node_at hp' hq') (node_few fc.w) (node_few fc.w)) fun s ⟨g, E⟩ => ?_
  obtain ⟨z, σ2⟩ := s
  simp only [decide_true] at g E
  subst g
  simp (config := { maxSteps := 2000000 }) -implicitDefEqProofs (disch := (first | omega | rfl | assumption | (simp only [rsD]; first | omega | assumption))) only [Nat.reduceAdd, Nat.reduceMul, Nat.reduceLT, Int.reduceToNat, Int.reduceAdd, Int.reduceSub, Int.reduceMul, rsU, rsC]
  have n2 := E.next
  simp only [rsD] at n2
  refine Ok_some.2 ⟨rfl, by show σ.next ≤ σ2.next; omega, fun b hb => ?_⟩
  show σ2.blk b = _
  rw [E.blk b (by simp only [rsD]; omega), s_bn (by omega), s_kn (by omega), s_bn (by omega), s_kn (by omega)]
  exact lo b hb
end Go.Abs.Try
set_option linter.unusedSimpArgs false
namespace Go.Abs.Try
open Go Go.Abs

def ats (l : List CV) : List Int := l.filterMap fun c => if 1 ≤ c.kind ∧ c.kind ≤ 3 then some c.at_ else none
theorem ats_snoc (l : List CV) (c : CV) : ats (l ++ [c]) = ats l ++ (if 1 ≤ c.kind ∧ c.kind ≤ 3 then [c.at_] else []) := by
  unfold ats
  rw [List.filterMap_append]
  congr 1
  simp only [List.filterMap_cons, List.filterMap_nil]
  split <;> simp_all
theorem ats_len (l : List CV) : (ats l).length ≤ l.length := List.length_filterMap_le _ _
def ddp (zs : List Int) : Nat → List Int
  | 0 => []
  | m + 1 => if m ≠ 0 ∧ zs[m]? = zs[m - 1]? then ddp zs m else ddp zs m ++ [zs.getD m 0]
theorem ddp_len (zs : List Int) : ∀ n, (ddp zs n).length ≤ n
  | 0 => by simp [ddp]
  | n + 1 => by
    have := ddp_len zs n
    unfold ddp
    split
    · omega
    · simp; omega
theorem strict_ext : ∀ {l m : List Int}, l.Pairwise (· < ·) → m.Pairwise (· < ·) → (∀ x, x ∈ l ↔ x ∈ m) → l = m
  | [], [], _, _, _ => rfl
  | [], b :: m, _, _, h => by have := (h b).2 List.mem_cons_self; cases this
  | a :: l, [], _, _, h => by have := (h a).1 List.mem_cons_self; cases this
  | a :: l, b :: m, hl, hm, h => by
    have hl1 := (List.pairwise_cons.1 hl).1
    have hm1 := (List.pairwise_cons.1 hm).1
    have e : a = b := by
      rcases List.mem_cons.1 ((h a).1 List.mem_cons_self) with e | e
      · exact e
      · rcases List.mem_cons.1 ((h b).2 List.mem_cons_self) with e' | e'
        · exact e'.symm
        · have := hm1 _ e; have := hl1 _ e'; omega
    subst e
    rw [strict_ext (List.pairwise_cons.1 hl).2 (List.pairwise_cons.1 hm).2 fun x => ⟨fun hx => ?_, fun hx => ?_⟩]
    · rcases List.mem_cons.1 ((h x).1 (List.mem_cons_of_mem _ hx)) with e | e
      · have := hl1 _ hx; omega
      · exact e
    · rcases List.mem_cons.1 ((h x).2 (List.mem_cons_of_mem _ hx)) with e | e
      · have := hm1 _ hx; omega
      · exact e
theorem ddp_spec {zs : List Int} (hs : zs.Pairwise (· ≤ ·)) : ∀ n, n ≤ zs.length → (ddp zs n).Pairwise (· < ·) ∧ ∀ x, x ∈ ddp zs n ↔ ∃ i, i < n ∧ zs[i]? = some x
  | 0, _ => ⟨by simp [ddp], fun x => by simp [ddp]⟩
  | n + 1, hn => by
    obtain ⟨h1, h2⟩ := ddp_spec hs n (by omega)
    have en : zs[n]? = some (zs.getD n 0) := by rw [List.getD_eq_getElem?_getD, List.getElem?_eq_getElem (by omega)]; rfl
    have mono : ∀ (i j : Nat) (x y : Int), i ≤ j → zs[i]? = some x → zs[j]? = some y → x ≤ y := fun i j x y hij hi hj => by
      obtain ⟨hi1, hi2⟩ := List.getElem?_eq_some_iff.1 hi
      obtain ⟨hj1, hj2⟩ := List.getElem?_eq_some_iff.1 hj
      by_cases e : i = j
      · subst e; rw [hi] at hj; cases hj; exact Int.le_refl _
      · have := List.pairwise_iff_getElem.1 hs i j hi1 hj1 (by omega)
        omega
    unfold ddp
    split
    · next h =>
      refine ⟨h1, fun x => (h2 x).trans ⟨fun ⟨i, hi, e⟩ => ⟨i, by omega, e⟩, fun ⟨i, hi, e⟩ => ?_⟩⟩
      by_cases e2 : i = n
      · subst e2; exact ⟨i - 1, by omega, by rw [← h.2]; exact e⟩
      · exact ⟨i, by omega, e⟩
    · next h =>
      refine ⟨List.pairwise_append.2 ⟨h1, by simp, fun x hx y hy => ?_⟩, fun x => ?_⟩
      · simp only [List.mem_singleton] at hy
        subst hy
        obtain ⟨i, hi, e⟩ := (h2 x).1 hx
        have h0 : n ≠ 0 := by omega
        have ep : zs[n - 1]? = some (zs.getD (n - 1) 0) := by rw [List.getD_eq_getElem?_getD, List.getElem?_eq_getElem (by omega)]; rfl
        have a1 := mono i (n - 1) x _ (by omega) e ep
        have a2 := mono (n - 1) n _ _ (by omega) ep en
        have a3 : zs.getD n 0 ≠ zs.getD (n - 1) 0 := fun e' => h ⟨h0, by rw [en, ep, e']⟩
        omega
      · rw [List.mem_append, List.mem_singleton, h2 x]
        constructor
        · rintro (⟨i, hi, e⟩ | rfl)
          · exact ⟨i, by omega, e⟩
          · exact ⟨n, by omega, en⟩
        · rintro ⟨i, hi, e⟩
          by_cases e2 : i = n
          · subst e2; rw [en] at e; exact .inr (Option.some.inj e).symm
          · exact .inl ⟨i, by omega, e⟩
theorem ins_spec {l : List Int} {x : Int} {k : Nat} (hl : l.Pairwise (· < ·)) (hk : k ≤ l.length) (h1 : ∀ j y, j < k → l[j]? = some y → y < x) (h2 : ∀ y, l[k]? = some y → x < y) :
    (l.take k ++ [x] ++ l.drop k).Pairwise (· < ·) ∧ ∀ y, y ∈ l.take k ++ [x] ++ l.drop k ↔ y ∈ l ∨ y = x := by
  have ht : ∀ y ∈ l.take k, y < x := fun y hy => by
    obtain ⟨j, hj⟩ := List.getElem?_of_mem hy
    rw [List.getElem?_take] at hj
    split at hj
    · exact h1 j y (by assumption) hj
    · cases hj
  have hd : ∀ y ∈ l.drop k, x < y := fun y hy => by
    obtain ⟨j, hj⟩ := List.getElem?_of_mem hy
    rw [List.getElem?_drop] at hj
    obtain ⟨hj1, hj2⟩ := List.getElem?_eq_some_iff.1 hj
    have hk0 := h2 l[k] (List.getElem?_eq_getElem (by omega))
    by_cases e : j = 0
    · subst e; exact h2 y hj
    · have := List.pairwise_iff_getElem.1 hl k (k + j) (by omega) hj1 (by omega)
      omega
  refine ⟨?_, fun y => ?_⟩
  · refine List.pairwise_append.2 ⟨List.pairwise_append.2 ⟨hl.sublist (List.take_sublist _ _), by simp, fun a ha b hb => ?_⟩, hl.sublist (List.drop_sublist _ _), fun a ha b hb => ?_⟩
    · simp only [List.mem_singleton] at hb; subst hb; exact ht a ha
    · rcases List.mem_append.1 ha with ha | ha
      · have := ht a ha; have := hd b hb; omega
      · simp only [List.mem_singleton] at ha; subst ha; exact hd b hb
  · conv => rhs; rw [← List.take_append_drop k l]
    simp only [List.mem_append, List.mem_singleton]
    constructor
    · rintro ((h | h) | h)
      · exact .inl (.inl h)
      · exact .inr h
      · exact .inl (.inr h)
    · rintro ((h | h) | h)
      · exact .inl (.inl h)
      · exact .inr h
      · exact .inl (.inr h)
/-- what both come to -/
def touched (l : List CV) : List Int := ddp ((ats l).mergeSort fun x y => decide (x ≤ y)) (ats l).length
theorem touched_eq {l : List CV} {m : List Int} (hm : m.Pairwise (· < ·)) (h : ∀ y, y ∈ m ↔ y ∈ ats l) : m = touched l := by
  have hp := List.mergeSort_perm (ats l) fun x y => decide (x ≤ y)
  have hl := hp.length_eq
  have hs : ((ats l).mergeSort fun x y => decide (x ≤ y)).Pairwise (· ≤ ·) := by
    have := List.pairwise_mergeSort (le := fun (x y : Int) => decide (x ≤ y)) (fun a b c h1 h2 => by simp at *; omega) (fun a b => by simp; omega) (ats l)
    exact this.imp fun h => by simpa using h
  obtain ⟨h1, h2⟩ := ddp_spec hs (ats l).length (by omega)
  refine strict_ext hm h1 fun x => ?_
  unfold touched
  rw [h, h2, ← hp.mem_iff]
  constructor
  · intro hx
    obtain ⟨i, hi⟩ := List.getElem?_of_mem hx
    exact ⟨i, by have := (List.getElem?_eq_some_iff.1 hi).1; omega, hi⟩
  · rintro ⟨i, _, hi⟩; exact List.mem_of_getElem? hi
end Go.Abs.Try
set_option linter.unusedSimpArgs false
set_option linter.unusedVariables false
set_option linter.unusedSectionVars false
set_option maxHeartbeats 2000000
set_option maxRecDepth 100000
namespace Go.Abs.Try
open Go Go.Abs
variable {O : Type}

theorem splice_at {cs : List AV} {w : Nat} {v : AV} (h : w + 1 ≤ cs.length) (i : Nat) : (splice cs w [v])[i]? = if i = w then some v else cs[i]? := by
  unfold splice
  by_cases h1 : i < w
  · rw [List.append_assoc, List.getElem?_append_left (by simp; omega), List.getElem?_take_of_lt h1, if_neg (by omega)]
  · by_cases h2 : i = w
    · subst h2
      rw [List.append_assoc, List.getElem?_append_right (by simp; omega), List.length_take, show i - min i cs.length = 0 by omega, if_pos rfl]; rfl
    · rw [List.getElem?_append_right (by simp; omega), if_neg h2, List.getElem?_drop]
      congr 1
      simp; omega
/-- within the second loop -/
structure CpI (σ : AH O) (b el : Nat) (zs : List Int) (rest : List AV) (m w : Nat) (σ' : AH O) : Prop where
  it : ∃ cs, σ' = σ.put b (.cells true el cs) ∧ cs.length = zs.length + rest.length ∧ w = (ddp zs m).length ∧ w + 1 ≤ m ∧ m ≤ zs.length ∧ (∀ i, i < w → cs[i]? = ((ddp zs m)[i]?).map (AV.i .i64)) ∧ ∀ i, m ≤ i + 1 → cs[i]? = (zs.map (AV.i .i64) ++ rest)[i]?
theorem zs_at {zs : List Int} {rest : List AV} {i : Nat} {x : Int} (h : zs[i]? = some x) : (zs.map (AV.i .i64) ++ rest)[i]? = some (.i .i64 x) := by
  have := (List.getElem?_eq_some_iff.1 h).1
  rw [List.getElem?_append_left (by simpa using this), List.getElem?_map, h]; rfl
theorem cp_l2 {σ : AH O} {b el k : Nat} {zs : List Int} {rest : List AV} (hl : zs.length ≤ 1000000000000) (hk0 : 1 ≤ k) (hk : k < zs.length) (hd : (ddp zs (k + 1)).length + 1 ≤ k + 1) {σ1 : AH O} (I0 : CpI σ b el zs rest (k + 1) (ddp zs (k + 1)).length σ1) (hw0 : (ddp zs (k + 1)).length = k) :
    Ok (loopF (S := List AV × AH O) (T := List AV × AH O) (slices_Compact___int_int__L2 (.loc (.n b) 0 1, zs.length) (k : Int) (.loc (.n b) k 1)) ([.i .i64 (k : Int), .i .i64 1], σ1)) fun r => ∃ (w : Nat) (σ' : AH O), r = ([.i .i64 (w : Int)], σ') ∧ CpI σ b el zs rest zs.length w σ' := by
  refine Ok.count (zs.length - (k + 1)) (fun j st => ∃ (w : Nat) (σ' : AH O), st = ([.i .i64 (w : Int), .i .i64 ((j + 1 : Nat) : Int)], σ') ∧ CpI σ b el zs rest (k + (j + 1)) w σ') ?_ ?_ ⟨k, σ1, rfl, by rw [← hw0]; rw [hw0]; rw [hw0] at I0; exact I0⟩
  · rintro j st hj ⟨w, σ', rfl, cs, rfl, hcl, hw, hw1, hm, hlo, hhi⟩
    obtain ⟨u, hu⟩ : ∃ u, zs[k + (j + 1)]? = some u := ⟨_, List.getElem?_eq_getElem (by omega)⟩
    obtain ⟨v, hv⟩ : ∃ v, zs[k + j]? = some v := ⟨_, List.getElem?_eq_getElem (by omega)⟩
    have r1 := (hhi (k + (j + 1)) (by omega)).trans (zs_at hu)
    have r2 := (hhi (k + j) (by omega)).trans (zs_at hv)
    have e1 : ((j + 1 : Nat) : Int).toNat = j + 1 := by omega
    have e2 : (((j + 1 : Nat) : Int) - 1).toNat = j := by omega
    have dn : ddp zs (k + (j + 1) + 1) = if zs[k + (j + 1)]? = zs[k + (j + 1) - 1]? then ddp zs (k + (j + 1)) else ddp zs (k + (j + 1)) ++ [zs.getD (k + (j + 1)) 0] := by
      conv => lhs; unfold ddp
      by_cases c : zs[k + (j + 1)]? = zs[k + (j + 1) - 1]?
      · rw [if_pos ⟨by omega, c⟩, if_pos c]
      · rw [if_neg (fun h => c h.2), if_neg c]
    rw [show k + (j + 1) - 1 = k + j by omega, hu, hv] at dn
    have gu : zs.getD (k + (j + 1)) 0 = u := by rw [List.getD_eq_getElem?_getD, hu]; rfl
    rw [gu] at dn
    by_cases q : u = v
    · have q1 := s_eqT q
      rw [if_pos (by rw [q])] at dn
      simp (config := { maxSteps := 2000000 }) -implicitDefEqProofs (disch := (first | omega | rfl | assumption | (simp only [rsD]; first | omega | assumption))) only [slices_Compact___int_int__L2, e1, e2, r1, r2, q1, Nat.reduceAdd, Nat.reduceMul, Nat.reduceLT, Int.reduceToNat, Int.reduceAdd, Int.reduceSub, Int.reduceMul, rsU, rsC]
      refine Ok_some.2 ⟨w, _, ?_, cs, rfl, hcl, ?_, by omega, by omega, ?_, fun i hi => hhi i (by omega)⟩
      · simp <;> omega
      · rw [show k + (j + 1 + 1) = k + (j + 1) + 1 by omega, dn]; exact hw
      · rw [show k + (j + 1 + 1) = k + (j + 1) + 1 by omega, dn]; exact hlo
    · have q1 := s_eqF q
      rw [if_neg (by simpa using q)] at dn
      have hroom : w + 1 ≤ cs.length := by omega
      simp (config := { maxSteps := 2000000 }) -implicitDefEqProofs (disch := (first | omega | rfl | assumption | (simp only [rsD]; first | omega | assumption))) only [slices_Compact___int_int__L2, e1, e2, r1, r2, q1, Nat.reduceAdd, Nat.reduceMul, Nat.reduceLT, Int.reduceToNat, Int.reduceAdd, Int.reduceSub, Int.reduceMul, rsU, rsC]
      refine Ok_some.2 ⟨w + 1, _, ?_, splice cs w [.i .i64 u], rfl, ?_, ?_, by omega, by omega, ?_, fun i hi => ?_⟩
      · simp <;> omega
      · rw [splice_len (by simpa using hroom)]; exact hcl
      · rw [show k + (j + 1 + 1) = k + (j + 1) + 1 by omega, dn]; simp [hw]
      · intro i hi
        rw [show k + (j + 1 + 1) = k + (j + 1) + 1 by omega, dn, splice_at hroom]
        by_cases ei : i = w
        · rw [if_pos ei, List.getElem?_append_right (by omega), show i - (ddp zs (k + (j + 1))).length = 0 by omega]; rfl
        · rw [if_neg ei, List.getElem?_append_left (by omega)]; exact hlo i (by omega)
      · rw [splice_at hroom, if_neg (by omega)]; exact hhi i (by omega)
  · rintro st ⟨w, σ', rfl, I⟩
    have hm : k + (zs.length - (k + 1) + 1) = zs.length := by omega
    rw [hm] at I
    have d1 := decide_eq_false (show ¬ ((zs.length - (k + 1) + 1 : Nat) : Int) < ((zs.length - k : Nat) : Int) by omega)
    simp (config := { maxSteps := 2000000 }) -implicitDefEqProofs (disch := (first | omega | rfl | assumption | (simp only [rsD]; first | omega | assumption))) only [slices_Compact___int_int__L2, d1, Nat.reduceAdd, Nat.reduceMul, Nat.reduceLT, Int.reduceToNat, Int.reduceAdd, Int.reduceSub, Int.reduceMul, rsU, rsC]
    exact Ok_some.2 ⟨w, σ', rfl, I⟩
theorem cp_end {cs : List AV} {zs : List Int} {rest : List AV} {w : Nat} (hcl : cs.length = zs.length + rest.length) (hw : w = (ddp zs zs.length).length) (hlo : ∀ i, i < w → cs[i]? = ((ddp zs zs.length)[i]?).map (AV.i .i64)) (zr : List AV) (hz : w + zr.length ≤ cs.length) :
    ∃ rest', splice cs w zr = (ddp zs zs.length).map (AV.i .i64) ++ rest' := by
  refine ⟨zr ++ cs.drop (w + zr.length), ?_⟩
  unfold splice
  rw [List.append_assoc]
  congr 1
  refine List.ext_getElem? fun i => ?_
  rw [List.getElem?_map]
  by_cases c : i < w
  · rw [List.getElem?_take_of_lt c, hlo i c]
  · rw [List.getElem?_eq_none (by simp; omega), List.getElem?_eq_none (by omega)]; rfl
theorem compact_ok {σ : AH O} {el : Nat} {a : SA} {zs : List Int} (hO : OwnP σ el 1 a zs.length (zs.map (AV.i .i64))) (hl : zs.length ≤ 1000000000000) :
    Ok (slices_Compact___int_int_ [.sl a zs.length] σ) fun r => r.1 = .sl a (ddp zs zs.length).length ∧ OwnP r.2 el 1 a (ddp zs zs.length).length ((ddp zs zs.length).map (AV.i .i64)) ∧ r.2.next = σ.next ∧ ∀ c, c ∉ SA.bk a → r.2.blk c = σ.blk c := by
  by_cases h2 : zs.length < 2
  · have d := decide_eq_true (show (zs.length : Int) < 2 by omega)
    have e : ddp zs zs.length = zs := by
      match zs, h2 with
      | [], _ => rfl
      | [x], _ => rfl
      | _ :: _ :: _, h => simp only [List.length_cons] at h; omega
    simp (config := { maxSteps := 2000000 }) -implicitDefEqProofs (disch := (first | omega | rfl | assumption | (simp only [rsD]; first | omega | assumption))) only [slices_Compact___int_int_, slices_Compact___int_int__c, d, Nat.reduceAdd, Nat.reduceMul, Nat.reduceLT, Int.reduceToNat, Int.reduceAdd, Int.reduceSub, Int.reduceMul, rsU, rsC]
    rw [e]
    exact Ok_some.2 ⟨rfl, hO, rfl, fun _ _ => rfl⟩
  · have d := decide_eq_false (show ¬ (zs.length : Int) < 2 by omega)
    obtain ⟨b, rest, rfl, hb, hlt⟩ := hO.loc (by omega)
    simp (config := { maxSteps := 2000000 }) -implicitDefEqProofs (disch := (first | omega | rfl | assumption | (simp only [rsD]; first | omega | assumption))) only [slices_Compact___int_int_, slices_Compact___int_int__c, d, Nat.reduceAdd, Nat.reduceMul, Nat.reduceLT, Int.reduceToNat, Int.reduceAdd, Int.reduceSub, Int.reduceMul, rsU, rsC]
    refine Ok.bindS (Q := fun r => (r = .inl ([], σ) ∧ ddp zs zs.length = zs) ∨ ∃ σ', r = .inr (.sl (.loc (.n b) 0 1) (ddp zs zs.length).length, σ') ∧ ∃ rest', σ' = σ.put b (.cells true el ((ddp zs zs.length).map (AV.i .i64) ++ rest'))) ?_ ?_ ?_
    · refine Ok.count (zs.length - 1) (fun j st => st = ([.i .i64 ((j + 1 : Nat) : Int)], σ) ∧ ddp zs (j + 1) = zs.take (j + 1)) ?_ ?_ ⟨rfl, ?_⟩
      · rintro j st hj ⟨rfl, ih⟩
        obtain ⟨u, hu⟩ : ∃ u, zs[j + 1]? = some u := ⟨_, List.getElem?_eq_getElem (by omega)⟩
        obtain ⟨v, hv⟩ : ∃ v, zs[j]? = some v := ⟨_, List.getElem?_eq_getElem (by omega)⟩
        have r1 := zs_at (rest := rest) hu
        have r2 := zs_at (rest := rest) hv
        have e1 : ((j + 1 : Nat) : Int).toNat = j + 1 := by omega
        have e2 : (((j + 1 : Nat) : Int) - 1).toNat = j := by omega
        have gu : zs.getD (j + 1) 0 = u := by rw [List.getD_eq_getElem?_getD, hu]; rfl
        have dn : ddp zs (j + 1 + 1) = if u = v then zs.take (j + 1) else zs.take (j + 1) ++ [u] := by
          rw [← ih]
          conv => lhs; unfold ddp
          rw [show j + 1 - 1 = j by omega, hu, hv, gu]
          by_cases c : u = v
          · rw [if_pos ⟨by omega, by rw [c]⟩, if_pos c]
          · rw [if_neg (fun h => c (by simpa using h.2)), if_neg c]
        by_cases q : u = v
        · have q1 := s_eqT q
          rw [if_pos q] at dn
          simp (config := { maxSteps := 2000000 }) -implicitDefEqProofs (disch := (first | omega | rfl | assumption | (simp only [rsD]; first | omega | assumption))) only [slices_Compact___int_int__L1, hb, e1, e2, r1, r2, q1, Nat.reduceAdd, Nat.reduceMul, Nat.reduceLT, Int.reduceToNat, Int.reduceAdd, Int.reduceSub, Int.reduceMul, rsU, rsC]
          have tl : (zs.take (j + 1)).length = j + 1 := by simp; omega
          have I0 : CpI σ b el zs rest (j + 1 + 1) (ddp zs (j + 1 + 1)).length σ := by
            refine ⟨zs.map (AV.i .i64) ++ rest, ?_, by simp, rfl, by rw [dn, tl]; omega, by omega, fun i hi => ?_, fun i _ => rfl⟩
            · obtain ⟨blk, nx⟩ := σ
              simp only [AH.put, AH.mk.injEq, and_true]
              funext c
              by_cases e : c = b
              · subst e; rw [Nat.beq_refl]; exact hb
              · cases hx : Nat.beq c b with
                | true => exact absurd (Nat.eq_of_beq_eq_true hx) e
                | false => rfl
            · rw [dn] at hi ⊢
              rw [tl] at hi
              rw [List.getElem?_append_left (by simp; omega), List.getElem?_map, List.getElem?_take_of_lt hi]
          have dl : (ddp zs (j + 1 + 1)).length = j + 1 := by rw [dn, tl]
          refine Ok.step (cp_l2 (k := j + 1) hl (by omega) (by omega) (by omega) I0 dl) ?_
          rintro _ ⟨w, σ', rfl, cs, rfl, hcl, hw, hw1, hm, hlo, hhi⟩
          have hz : Nat.beq (zs.length - w) 0 = false := s_n1 (by omega)
          have lf : ((List.replicate (zs.length - w) [AV.i .i64 0]).flatten).length = zs.length - w := by rw [flat_len]; simp
          simp (config := { maxSteps := 2000000 }) -implicitDefEqProofs (disch := (first | omega | rfl | assumption | (simp only [rsD]; first | omega | assumption))) only [hz, lf, Nat.sub_zero, Nat.reduceAdd, Nat.reduceMul, Nat.reduceLT, Int.reduceToNat, Int.reduceAdd, Int.reduceSub, Int.reduceMul, rsU, rsC]
          obtain ⟨rest', hr⟩ := cp_end hcl hw hlo ((List.replicate (zs.length - w) [AV.i .i64 0]).flatten) (by rw [lf]; omega)
          exact Ok_some.2 (.inr ⟨σ.put b (.cells true el (splice cs w ((List.replicate (zs.length - w) [AV.i .i64 0]).flatten))), by rw [hw], rest', by rw [hr]⟩)
        · have q1 := s_eqF q
          rw [if_neg q] at dn
          simp (config := { maxSteps := 2000000 }) -implicitDefEqProofs (disch := (first | omega | rfl | assumption | (simp only [rsD]; first | omega | assumption))) only [slices_Compact___int_int__L1, hb, e1, e2, r1, r2, q1, Nat.reduceAdd, Nat.reduceMul, Nat.reduceLT, Int.reduceToNat, Int.reduceAdd, Int.reduceSub, Int.reduceMul, rsU, rsC]
          refine Ok_some.2 ⟨by simp <;> omega, ?_⟩
          rw [dn, List.take_add_one (i := j + 1), hu]; rfl
      · rintro st ⟨rfl, ih⟩
        have e1 : zs.length - 1 + 1 = zs.length := by omega
        rw [e1, List.take_length] at ih
        have d1 := decide_eq_false (show ¬ ((zs.length - 1 + 1 : Nat) : Int) < (zs.length : Int) by omega)
        simp (config := { maxSteps := 2000000 }) -implicitDefEqProofs (disch := (first | omega | rfl | assumption | (simp only [rsD]; first | omega | assumption))) only [slices_Compact___int_int__L1, d1, Nat.reduceAdd, Nat.reduceMul, Nat.reduceLT, Int.reduceToNat, Int.reduceAdd, Int.reduceSub, Int.reduceMul, rsU, rsC]
        exact Ok_some.2 (.inl ⟨rfl, ih⟩)
      · show ddp zs (0 + 1) = zs.take (0 + 1)
        unfold ddp
        rw [if_neg (by simp)]
        match zs, h2 with
        | x :: _, _ => rfl
        | [], h => simp at h
    · rintro _ (⟨e, h⟩ | ⟨_, e, _⟩)
      · cases e
        simp (config := { maxSteps := 2000000 }) -implicitDefEqProofs (disch := (first | omega | rfl | assumption | (simp only [rsD]; first | omega | assumption))) only [Nat.reduceAdd, Nat.reduceMul, Nat.reduceLT, Int.reduceToNat, Int.reduceAdd, Int.reduceSub, Int.reduceMul, rsU, rsC]
        rw [h]
        exact Ok_some.2 ⟨rfl, hO, rfl, fun _ _ => rfl⟩
      · cases e
    · rintro _ (⟨e, _⟩ | ⟨σ', e, rest', rfl⟩)
      · cases e
      · cases e
        refine ⟨rfl, OwnP.new (rest := rest') (by simp) s_bs hlt, rfl, fun c hc => s_bn (by simpa [SA.bk] using hc)⟩
end Go.Abs.Try
