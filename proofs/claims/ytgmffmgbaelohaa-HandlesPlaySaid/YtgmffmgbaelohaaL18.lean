/-
  The statement HandlesPlay: handles and their document, side by side. No conditions.
-/
import Derived.Test.YtgmffmgbaelohaaM18
import Derived.Test.YtgmffmgbaelohaaM7
import Derived.Test.YtgmffmgbaelohaaAbsIn
set_option linter.unusedVariables false
set_option linter.unusedSimpArgs false
set_option linter.constructorNameAsVariable false
set_option linter.unusedSimpArgs false
set_option linter.unusedVariables false
set_option linter.unusedSectionVars false
set_option maxHeartbeats 2000000
namespace Go.Abs.Try
open Go Go.Abs
variable {O : Type}

/-- the document's state and the handles' -/
structure HSim (S : HS) (P : PoolS) (C : List Nat) : Prop where
  words : S.D.words = 3
  room : S.D.room = P.room
  len : S.D.L.length = P.E.length
  el : ∀ (i : Nat) (d : DE), S.D.L[i]? = some d → ∃ (g : Nat) (x : Option Int), vw P.E i = some (d.tk, g, x) ∧ d.gen = (g : Int) ∧ d.ws.length = 3
  free : S.D.free = (P.free.map fun (i : Nat) => (i : Int)).reverse
  ll : S.L.length = C.length
  at_ : ∀ (k i : Nat), C[k]? = some i → ∃ (g : Nat) (x : Int), S.L[k]? = some (tok i g, x) ∧ vw P.E i = some (true, g, some x)
/-- not much was done -/
structure HBd (k : Nat) (P : PoolS) : Prop where
  e : P.E.length ≤ k
  f : P.free.length ≤ k
  g : ∀ (i : Nat) (t : Bool) (g : Nat) (x : Option Int), vw P.E i = some (t, g, x) → g ≤ k
  r : P.room ≤ 160
theorem HBd.up {k : Nat} {P : PoolS} (h : HBd k P) : HBd (k + 1) P := ⟨by have := h.e; omega, by have := h.f; omega, fun i t g x hv => by have := h.g i t g x hv; omega, h.r⟩
section
variable {S : HS} {P : PoolS} {C : List Nat} (sim : HSim S P C) {k : Nat} (bd : HBd k P)
include sim bd
theorem HSim.small (hk : k ≤ 80) : S.D.small := by
  refine ⟨by rw [sim.len]; have := bd.e; omega, by rw [sim.free]; simp; have := bd.f; omega, fun d hd => ?_⟩
  obtain ⟨i, hi⟩ := List.getElem?_of_mem hd
  obtain ⟨_, _, _, _, hw⟩ := sim.el i d hi
  omega
theorem HSim.gens (hk : k ≤ 80) : ∀ e ∈ S.D.L, 0 ≤ e.gen ∧ e.gen ≤ 1000 := fun d hd => by
  obtain ⟨i, hi⟩ := List.getElem?_of_mem hd
  obtain ⟨g, x, h1, h2, _⟩ := sim.el i d hi
  have := bd.g _ _ _ _ h1
  omega
omit bd in
theorem HSim.yes {σ : AH O} {hb pb mb : Nat} {M : MemS} {w : List Int} {X : List Nat} (h : HanAt σ hb pb mb M P C w X) {i g : Nat} {x : Option Int} (hv : vw P.E i = some (true, g, x)) : ∃ d y, C[d]? = some i ∧ S.at (tok i g) = some d ∧ S.L[d]? = some (tok i g, y) ∧ x = some y := by
  obtain ⟨e, he, htk, _⟩ := vw_some hv
  obtain ⟨d, hd⟩ := List.getElem?_of_mem (h.all i e he htk)
  obtain ⟨g', y, h1, h2⟩ := sim.at_ d i hd
  rw [hv] at h2
  simp only [Option.some.injEq, Prod.mk.injEq, true_and] at h2
  obtain ⟨rfl, rfl⟩ := h2
  have hdl := (List.getElem?_eq_some_iff.1 h1).1
  have hfew := h.few
  have hi := vw_len hv
  refine ⟨d, y, hd, ?_, h1, rfl⟩
  unfold HS.at
  rw [List.findIdx?_eq_some_iff_getElem]
  refine ⟨hdl, by rw [(List.getElem?_eq_some_iff.1 h1).2]; simp, fun j hj => ?_⟩
  have hjC : j < C.length := by rw [← sim.ll]; omega
  have hc := List.getElem?_eq_getElem hjC
  obtain ⟨gj, yj, k1, k2⟩ := sim.at_ j _ hc
  rw [(List.getElem?_eq_some_iff.1 k1).2]
  have := vw_len k2
  simp only [Bool.not_eq_true, beq_eq_false_iff_ne]
  intro e1
  have := (tok_inj (by omega) (by omega) e1).1
  rw [this] at hc
  have := nodup_at h.l.nd hc hd
  omega
omit bd in
theorem HSim.no {t : Int} (hv : ∀ i g x, vw P.E i = some (true, g, x) → t ≠ tok i g) : S.at t = none := by
  unfold HS.at
  rw [List.findIdx?_eq_none_iff]
  intro p hp
  obtain ⟨j, hj⟩ := List.getElem?_of_mem hp
  have hjC : j < C.length := by rw [← sim.ll]; exact (List.getElem?_eq_some_iff.1 hj).1
  obtain ⟨g, y, k1, k2⟩ := sim.at_ j _ (List.getElem?_eq_getElem hjC)
  rw [hj] at k1
  simp only [Option.some.injEq] at k1
  subst k1
  simp only [beq_eq_false_iff_ne]
  exact fun e => hv _ _ _ k2 e.symm
/-- one comes -/
theorem HSim.add (hk : k < 80) {σ : AH O} {hb pb mb : Nat} {M : MemS} {w : List Int} {X : List Nat} (h : HanAt σ hb pb mb M P C w X) {P' : PoolS} {i g : Nat} {x : Int} (c : HCame P P' i g x) {v : AV} (hv : S.D.at_ v) :
    ∃ D' e, (∀ σ' : AH O, Ok (haymowref10_Take [v] σ') fun r => (∃ v', r.1 = .tup [v', .i .i64 ((i : Int) + 1)] ∧ D'.at_ v') ∧ Ext σ' r.2) ∧ D'.L[i]? = some e ∧ e.gen = (g : Int) ∧ HSim ⟨D', S.L ++ [(tok i g, x)]⟩ P' (C ++ [i]) ∧ HBd (k + 1) P' := by
  have hsm := sim.small bd (by omega)
  have hw := sim.words
  have hmd := h.p.p.made
  have hlen := sim.len
  have hbe := bd.e
  have hbr := bd.r
  have hroom := sim.room
  have hmore : P.more ≤ 160 := by
    unfold PoolS.more
    split
    · exact hbr
    · rw [Nat.max_def]; split <;> omega
  have hiC : ∀ (k j : Nat), C[k]? = some j → j ≠ i := fun k j hj e => by
    subst e
    obtain ⟨g', x', _, h2⟩ := sim.at_ k j hj
    rcases c.was with ⟨h3, _⟩ | ⟨y, h3⟩
    · rw [h2] at h3; cases h3
    · rw [h2] at h3; simp at h3
  have hgk : g ≤ k := by
    rcases c.was with ⟨_, e⟩ | ⟨y, e⟩
    · omega
    · exact bd.g _ _ _ _ e
  have hat : ∀ (k' j : Nat), (C ++ [i])[k']? = some j → ∃ (g' : Nat) (x' : Int), (S.L ++ [(tok i g, x)])[k']? = some (tok j g', x') ∧ vw P'.E j = some (true, g', some x') := fun k' j hj => by
    rcases Nat.lt_or_ge k' C.length with hl | hl
    · rw [List.getElem?_append_left hl] at hj
      obtain ⟨g', x', h1, h2⟩ := sim.at_ k' j hj
      exact ⟨g', x', by rw [List.getElem?_append_left (by rw [sim.ll]; exact hl)]; exact h1, by rw [c.other j (hiC k' j hj)]; exact h2⟩
    · have := (List.getElem?_eq_some_iff.1 hj).1
      simp at this
      obtain rfl : k' = C.length := by omega
      simp at hj
      subst hj
      exact ⟨g, x, by rw [← sim.ll]; simp, c.now⟩
  have hbd : ∀ f, P'.free.length ≤ f → f ≤ k + 1 → P'.room ≤ 160 → HBd (k + 1) P' := fun f hf hf2 hr => by
    refine ⟨by have := c.len; omega, by omega, fun j t g' x' hj => ?_, hr⟩
    by_cases cj : j = i
    · rw [cj, c.now] at hj
      simp only [Option.some.injEq, Prod.mk.injEq] at hj
      omega
    · rw [c.other j cj] at hj
      have := bd.g _ _ _ _ hj; omega
  rcases c.fr with ⟨f1, f2, f3, f4, f5⟩ | ⟨f1, f2, f3⟩
  · have hfr : S.D.free = [] := by rw [sim.free, f1]; rfl
    have hg0 : g = 0 := by
      rcases c.was with ⟨_, e⟩ | ⟨y, e⟩
      · exact e
      · have := vw_len e; omega
    have hroomy : S.D.roomy = P.more := by
      unfold DS.roomy PoolS.more
      by_cases cc : P.E.length < P.room
      · rw [if_neg (by omega), if_pos cc]; exact hroom
      · rw [if_pos (by omega), if_neg cc, Nat.max_def]
        split <;> split <;> omega
    refine ⟨S.D.fresh, ⟨true, 0, List.replicate S.D.words.toNat 0⟩, fun σ' => ?_, ?_, by rw [hg0]; rfl, ⟨hw, ?_, ?_, fun j d hd => ?_, ?_, by simp [sim.ll], hat⟩, hbd 0 (by rw [f3]; simp) (by omega) (by rw [f4]; exact hmore)⟩
    · have := rtake_new (σ := σ') hsm (by omega) (by omega) hv hfr
      rw [hlen, ← f2] at this
      exact this
    · show (S.D.L ++ [_])[i]? = _
      rw [f2, ← hlen]; simp
    · show S.D.roomy = _
      rw [hroomy, f4]
    · show (S.D.L ++ [_]).length = _
      simp; omega
    · simp only [DS.fresh] at hd
      rcases Nat.lt_or_ge j S.D.L.length with hl | hl
      · rw [List.getElem?_append_left hl] at hd
        obtain ⟨g', x', h1, h2⟩ := sim.el j d hd
        exact ⟨g', x', by rw [c.other j (by omega)]; exact h1, h2⟩
      · have := (List.getElem?_eq_some_iff.1 hd).1
        simp at this
        obtain rfl : j = S.D.L.length := by omega
        simp at hd
        subst hd
        exact ⟨g, some x, by rw [hlen, ← f2]; exact c.now, by rw [hg0]; rfl, by simp [hw]⟩
    · show S.D.free = _
      rw [hfr, f3]; rfl
  · have hi : i < S.D.L.length := by rw [hlen, ← f3]; exact vw_len c.now
    have hfr : S.D.free = (P'.free.map fun (i : Nat) => (i : Int)).reverse ++ [(i : Int) + 1] := by rw [sim.free, f1]; simp
    have hd := List.getElem?_eq_getElem hi
    generalize S.D.L[i] = d at hd
    obtain ⟨g0, x0, h1, h2, h3⟩ := sim.el i d hd
    have hg0 : g0 = g := by
      rcases c.was with ⟨e, _⟩ | ⟨y, e⟩
      · rw [h1] at e; cases e
      · rw [h1] at e; simp at e; omega
    refine ⟨S.D.taken i d ((P'.free.map fun (i : Nat) => (i : Int)).reverse), ⟨true, d.gen, List.replicate S.D.words.toNat 0⟩, fun σ' => rtake_old hsm (by omega) hv hfr hd, ?_, by rw [h2, hg0], ⟨hw, ?_, ?_, fun j d' hd' => ?_, rfl, by simp [sim.ll], hat⟩, hbd (P.free.length) (by rw [f1]; simp) (by have := bd.f; omega) (by rw [f2]; exact hbr)⟩
    · show (S.D.L.set i _)[i]? = _
      rw [List.getElem?_set]; simp [hi]
    · show S.D.room = _
      rw [f2]; exact hroom
    · show (S.D.L.set i _).length = _
      rw [List.length_set, f3]; exact hlen
    · simp only [DS.taken, List.getElem?_set] at hd'
      by_cases cj : i = j
      · subst cj
        rw [if_pos rfl, if_pos hi] at hd'
        simp only [Option.some.injEq] at hd'
        subst hd'
        exact ⟨g, some x, c.now, by rw [h2, hg0], by simp [hw]⟩
      · rw [if_neg cj] at hd'
        obtain ⟨g', x', k1, k2⟩ := sim.el j d' hd'
        exact ⟨g', x', by rw [c.other j (fun e => cj e.symm)]; exact k1, k2⟩
/-- one goes -/
theorem HSim.drop {P' : PoolS} {i g d : Nat} {x : Option Int} (hv : vw P.E i = some (true, g, x)) (hk : k < 80) (hdi : C[d]? = some i) (hnd : C.Nodup) (hat : S.at (tok i g) = some d) (q2 : P'.room = P.room) (q3 : P'.free = (i + 1) :: P.free) (q4 : P'.E.length = P.E.length) (q5 : ∃ y, vw P'.E i = some (false, g + 1, y)) (q6 : ∀ j, j ≠ i → vw P'.E j = vw P.E j) :
    HSim (S.drop (tok i g)) P' (C.eraseIdx d) ∧ HBd (k + 1) P' := by
  have hi := vw_len hv
  have hbe := bd.e
  have hlen := sim.len
  have hiD : i < S.D.L.length := by omega
  have hd := List.getElem?_eq_getElem hiD
  generalize S.D.L[i] = e at hd
  obtain ⟨g0, x0, h1, h2, h3⟩ := sim.el i e hd
  rw [hv] at h1
  simp only [Option.some.injEq, Prod.mk.injEq] at h1
  obtain ⟨htk, rfl, rfl⟩ := h1
  have tm : Int.tmod (tok i g) 1048576 + 1 = (i : Int) + 1 := by
    rw [Int.tmod_eq_emod_of_nonneg (by unfold tok; omega), tok_mod (by omega)]
  have ent : S.D.ent ((i : Int) + 1) = some e := by
    unfold DS.ent
    rw [if_pos (by omega), show ((i : Int) + 1 - 1).toNat = i by omega]; exact hd
  have hgive : S.D.give ((i : Int) + 1) = ({ S.D with L := S.D.L.set i ⟨false, e.gen + 1, e.ws⟩, free := S.D.free ++ [(i : Int) + 1] }, 0) := by
    unfold DS.give
    rw [ent]
    simp only
    rw [if_pos htk.symm, show ((i : Int) + 1 - 1).toNat = i by omega]
  have hS : S.drop (tok i g) = ⟨{ S.D with L := S.D.L.set i ⟨false, e.gen + 1, e.ws⟩, free := S.D.free ++ [(i : Int) + 1] }, S.L.take d ++ S.L.drop (d + 1)⟩ := by
    unfold HS.drop
    rw [hat]
    simp only
    rw [tm, hgive]
  rw [hS]
  have hdC := (List.getElem?_eq_some_iff.1 hdi).1
  have hll := sim.ll
  obtain ⟨y, q5⟩ := q5
  refine ⟨⟨sim.words, by rw [q2]; exact sim.room, by simp only [List.length_set]; omega, fun j d' hd' => ?_, by rw [q3]; simp [sim.free], ?_, fun k' j hj => ?_⟩, ⟨by omega, by rw [q3]; simp; exact bd.f, fun j t g' x' hj => ?_, by rw [q2]; exact bd.r⟩⟩
  · simp only [List.getElem?_set] at hd'
    by_cases cj : i = j
    · subst cj
      rw [if_pos rfl, if_pos hiD] at hd'
      simp only [Option.some.injEq] at hd'
      subst hd'
      exact ⟨g + 1, y, q5, by simp only; omega, h3⟩
    · rw [if_neg cj] at hd'
      obtain ⟨g', x', k1, k2⟩ := sim.el j d' hd'
      exact ⟨g', x', by rw [q6 j (fun e => cj e.symm)]; exact k1, k2⟩
  · simp only [List.length_append, List.length_take, List.length_drop, List.length_eraseIdx]
    rw [if_pos hdC]; omega
  · have hl2 : (S.L.take d).length = d := by simp; omega
    rw [List.getElem?_eraseIdx] at hj
    have key : ∀ m, C[m]? = some j → m ≠ d → ∃ (g' : Nat) (x' : Int), S.L[m]? = some (tok j g', x') ∧ vw P'.E j = some (true, g', some x') := fun m hm hmd => by
      obtain ⟨g', x', k1, k2⟩ := sim.at_ m j hm
      exact ⟨g', x', k1, by rw [q6 j (fun e => hmd (nodup_at hnd (e ▸ hm) hdi))]; exact k2⟩
    split at hj
    · rename_i hlt
      obtain ⟨g', x', k1, k2⟩ := key k' hj (by omega)
      exact ⟨g', x', by rw [List.getElem?_append_left (by omega), List.getElem?_take, if_pos hlt]; exact k1, k2⟩
    · rename_i hge
      obtain ⟨g', x', k1, k2⟩ := key (k' + 1) hj (by omega)
      exact ⟨g', x', by rw [List.getElem?_append_right (by omega), hl2, List.getElem?_drop, show d + 1 + (k' - d) = k' + 1 by omega]; exact k1, k2⟩
  · by_cases cj : j = i
    · rw [cj, q5] at hj
      simp only [Option.some.injEq, Prod.mk.injEq] at hj
      have := bd.g _ _ _ _ hv; omega
    · rw [q6 j cj] at hj
      have := bd.g _ _ _ _ hj; omega
omit bd in
theorem HSim.like {P' : PoolS} {l : List (Int × Int)} (L : Like P P') (hl : l.length = S.L.length) (ha : ∀ (k i : Nat), C[k]? = some i → ∃ (g : Nat) (x : Int), l[k]? = some (tok i g, x) ∧ vw P'.E i = some (true, g, some x)) : HSim { S with L := l } P' C := by
  refine ⟨sim.words, by rw [L.room]; exact sim.room, by rw [L.len]; exact sim.len, fun j d hd => ?_, by rw [L.free]; exact sim.free, hl.trans sim.ll, ha⟩
  obtain ⟨g, x, h1, h2⟩ := sim.el j d hd
  have hm := L.vw j
  rw [h1] at hm
  cases hv : vw P'.E j with
  | none => rw [hv] at hm; simp at hm
  | some y =>
    obtain ⟨t, g', x'⟩ := y
    rw [hv] at hm
    simp only [Option.map_some, Option.some.injEq, Prod.mk.injEq] at hm
    obtain ⟨rfl, rfl⟩ := hm
    exact ⟨g', x', rfl, h2⟩
omit sim in
theorem HBd.like {P' : PoolS} (L : Like P P') : HBd (k + 1) P' := by
  refine ⟨by rw [L.len]; have := bd.e; omega, by rw [L.free]; have := bd.f; omega, fun j t g x hj => ?_, by rw [L.room]; exact bd.r⟩
  have hm := L.vw j
  rw [hj] at hm
  cases hv : vw P.E j with
  | none => rw [hv] at hm; simp at hm
  | some y =>
    obtain ⟨t', g', x'⟩ := y
    rw [hv] at hm
    simp only [Option.map_some, Option.some.injEq, Prod.mk.injEq] at hm
    obtain ⟨rfl, rfl⟩ := hm
    have := bd.g _ _ _ _ hv; omega
omit bd in
/-- one holds another one -/
theorem HSim.set {P' : PoolS} {i g d : Nat} {y x : Int} (L : Like P P') (hdi : C[d]? = some i) (hnd : C.Nodup) (hat : S.at (tok i g) = some d) (hl : S.L[d]? = some (tok i g, y)) (q5 : vw P'.E i = some (true, g, some x)) (q6 : ∀ j, j ≠ i → vw P'.E j = vw P.E j) : HSim (S.set (tok i g) x) P' C := by
  have hd := (List.getElem?_eq_some_iff.1 hl).1
  unfold HS.set
  rw [hat]
  refine sim.like L (by simp) fun k j hj => ?_
  by_cases c : k = d
  · subst c
    rw [hdi] at hj
    cases hj
    exact ⟨g, x, by rw [List.getElem?_set]; simp [hd], q5⟩
  · obtain ⟨g', x', k1, k2⟩ := sim.at_ k j hj
    exact ⟨g', x', by rw [List.getElem?_set, if_neg (fun e => c e.symm)]; exact k1, by rw [q6 j (fun e => c (nodup_at hnd (e ▸ hj) hdi))]; exact k2⟩
omit bd in
/-- all hold more -/
theorem HSim.more {P' : PoolS} {x : Int} {V : List (Nat × Int)} (L : Like P P') (hV : ∀ (j i : Nat), C[j]? = some i → ∃ g y, V[j]? = some (g, y) ∧ vw P.E i = some (true, g, some y)) (hv : ∀ (j i : Nat), C[j]? = some i → vw P'.E i = some (true, (V.getD j (0, 0)).1, (V.map fun p => (hmore x (0, p.2)).2)[j]?)) : HSim (S.more x) P' C := by
  unfold HS.more
  refine sim.like L (by simp) fun k j hj => ?_
  obtain ⟨g', x', k1, k2⟩ := sim.at_ k j hj
  obtain ⟨g, y, h1, h2⟩ := hV k j hj
  rw [k2] at h2
  simp only [Option.some.injEq, Prod.mk.injEq, true_and] at h2
  obtain ⟨rfl, rfl⟩ := h2
  refine ⟨g', (hmore x (0, x')).2, ?_, ?_⟩
  · rw [List.getElem?_map, k1]
    simp only [Option.map_some, hmore]
    split <;> rfl
  · rw [hv k j hj, List.getD_eq_getElem?_getD, h1, List.getElem?_map, h1]; rfl
end
end Go.Abs.Try
set_option linter.unusedSimpArgs false
set_option linter.unusedVariables false
set_option linter.unusedSectionVars false
set_option maxHeartbeats 2000000
namespace Go.Abs.Try
open Go Go.Abs
variable {O : Type}

/-- what a call does -/
structure HDid (σ : AH O) (hb pb mb : Nat) (M : MemS) (P : PoolS) (X : List Nat) (k : Nat) (r : AV × AH O) : Prop where
  it : ∃ (S' : HS) (a b c : SA) (P' : PoolS) (C' : List Nat) (M' : MemS) (w' : List Int) (most : Int), r.1 = .tup [.agg (S'.vs a b c), .i .u64 most, .b true] ∧ S'.st a b c ∧ HSim S' P' C' ∧ HBd (k + 1) P' ∧ HanAt r.2 hb pb mb M' P' C' w' X ∧ M.met.r + M.met.w ≤ M'.met.r + M'.met.w ∧ M'.met.r + M'.met.w ≤ M.met.r + M.met.w + most ∧ most ≤ 600 ∧ M'.sp.length = M.sp.length ∧ P'.id = P.id
  kp : Keep X σ r.2
section
variable {σ : AH O} {hb pb mb : Nat} {M : MemS} {P : PoolS} {C : List Nat} {w : List Int} {X : List Nat}
/-- the three boxes -/
theorem hboxes (h : HanAt σ hb pb mb M P C w X) {x y z : Blk O} {σ1 : AH O} (hσ : ((((σ.bump 3).put σ.next x).put (σ.next + 1) y).put (σ.next + 1 + 1) z) = σ1) : HanAt σ1 hb pb mb M P C w (σ.next :: (σ.next + 1) :: (σ.next + 1 + 1) :: X) ∧ Keep X σ σ1 ∧ σ1.blk σ.next = some x ∧ σ1.blk (σ.next + 1) = some y ∧ σ1.blk (σ.next + 1 + 1) = some z ∧ σ1.next = σ.next + 3 := by
  subst hσ
  have E : Ext σ ((((σ.bump 3).put σ.next x).put (σ.next + 1) y).put (σ.next + 1 + 1) z) := ((((Ext.refl σ).bump 3).put (Nat.le_refl _) _).put (by omega) _).put (by omega) _
  have hn : ((((σ.bump 3).put σ.next x).put (σ.next + 1) y).put (σ.next + 1 + 1) z).next = σ.next + 3 := rfl
  refine ⟨h.turn (L := []) E.chg (by simp) fun b hb => ?_, h.p.mi.tail.tail.keepExt E, ?_, ?_, s_bs, rfl⟩
  · simp only [List.mem_cons] at hb
    rcases hb with hb | hb | hb | hb
    · right; omega
    · right; omega
    · right; omega
    · exact .inl hb
  · rw [s_bn (by omega), s_bn (by omega)]; exact s_bs
  · rw [s_bn (by omega)]; exact s_bs
theorem fin18 (h : HanAt σ hb pb mb M P C w X) {σ1 σ2 σ3 σ4 : AH O} {M' : MemS} {P' : PoolS} {C' : List Nat} {w' : List Int} (k1 : Keep X σ σ1) (kp : Keep (σ.next :: (σ.next + 1) :: (σ.next + 1 + 1) :: X) σ1 σ2) (E3 : Ext σ2 σ3)
    (hp : HanAt σ2 hb pb mb M' P' C' w' (σ.next :: (σ.next + 1) :: (σ.next + 1 + 1) :: X)) (n4 : σ4.next = σ3.next) (o4 : ∀ b, b ≠ σ.next → b ≠ σ.next + 1 → b ≠ σ.next + 1 + 1 → σ4.blk b = σ3.blk b) : HanAt σ4 hb pb mb M' P' C' w' X ∧ Keep X σ σ4 := by
  have hX : ∀ b ∈ X, b < σ.next := fun b hb => h.p.mi.lt b (by simp [hb])
  have h3 : HanAt σ3 hb pb mb M' P' C' w' (σ.next :: (σ.next + 1) :: (σ.next + 1 + 1) :: X) := hp.turn (L := []) E3.chg (by simp) fun b hb => .inl hb
  refine ⟨h3.turn (L := [σ.next, σ.next + 1, σ.next + 1 + 1]) ⟨by rw [n4]; exact Nat.le_refl _, fun b hb hm => by simp at hm; exact o4 b hm.1 hm.2.1 hm.2.2⟩ (fun b hb => ?_) fun b hb => .inl (by simp [hb]), ?_⟩
  · simp at hb
    rcases hb with rfl | rfl | rfl <;> exact .inl (by simp)
  · have hl2 : ∀ b ∈ X, b < σ2.next := fun b hb => hp.p.mi.lt b (by simp [hb])
    exact ⟨by rw [n4]; exact Nat.le_trans k1.next (Nat.le_trans kp.next E3.next), fun b hb => by
      have := hX b hb
      rw [o4 b (by omega) (by omega) (by omega), E3.blk b (hl2 b hb), kp.blk b (by simp [hb]), k1.blk b hb]⟩
variable {S : HS} {k : Nat} {a b c : SA} (h : HanAt σ hb pb mb M P C w X) (sim : HSim S P C) (bd : HBd k P) (hk : k < 80) (hs : S.st a b c) (hm : 0 ≤ M.met.r ∧ 0 ≤ M.met.w ∧ M.met.r + M.met.w ≤ 1000000)
include h sim bd hk hs hm
theorem do18_drop {o1 o3 : Int} {bb : Bool} {t : Int} (ht : -9223372036854775808 ≤ t ∧ t ≤ 9223372036854775807) :
    Ok (law18_do [.p (some (.n hb, 0)), .agg (S.vs a b c), .agg [.i .i64 1, .i .i64 o1, .b bb, .i .u64 o3], .i .i64 t] σ) (HDid σ hb pb mb M P X k) := by
  have e1 : ((1 : Int) == 1) = true := rfl
  have hce := h.ce
  have hbe := bd.e
  have hll := sim.ll
  simp (config := { maxSteps := 2000000 }) -implicitDefEqProofs (disch := (first | omega | rfl | assumption | (simp only [rsD]; first | omega | assumption))) only [law18_do, law18_do_c, HS.vs, e1, Nat.reduceAdd, Nat.reduceMul, Nat.reduceLT, Int.reduceToNat, Int.reduceAdd, Int.reduceSub, Int.reduceMul, rsU, rsC]
  generalize hσ : AH.put _ (σ.next + 1 + 1) _ = σ1
  obtain ⟨h1, k1, b0, b1, b2, n1⟩ := hboxes h hσ
  clear hσ
  have doc : ∀ σ2 : AH O, Ok (haymowref18_Drop [.agg [.i .i64 S.D.words, .sl a S.D.L.length, .sl b S.D.free.length, .i .i64 S.D.room, .sl c S.L.length], .i .i64 t] σ2) fun r => (∃ v', r.1 = .tup [v', .i .i64 (S.code t)] ∧ (S.drop t).at_ v') ∧ Ext σ2 r.2 := fun σ2 => rhdrop_ok hs (by omega) (sim.small bd (by omega)) (sim.gens bd (by omega)) ht
  by_cases hy : ∃ i g x, vw P.E i = some (true, g, x) ∧ t = tok i g
  · obtain ⟨i, g, x, hv, rfl⟩ := hy
    obtain ⟨d, y, hd, hat, hL, hxy⟩ := sim.yes h hv
    have hgk := bd.g _ _ _ _ hv
    refine Ok.step (hdrop_ok h1 ⟨by omega, by omega⟩ hv (by omega)) fun r ⟨p1, M2, w2, P2, d', dr, dw, p2, p3, p4, p5, p6, p7, p8, p9, q1, q2, q3, q4, q5⟩ => ?_
    obtain ⟨q, σ2⟩ := r
    simp only at p1 p3 q5
    subst p1
    obtain rfl : d' = d := nodup_at h.l.nd p2 hd
    obtain ⟨s1, s2⟩ := sim.drop bd hv hk hd h.l.nd hat p5 p6 p7 p8 p9
    have c0 : σ2.blk σ.next = _ := (q5.blk _ (by simp)).trans b0
    have c2 : σ2.blk (σ.next + 1 + 1) = _ := (q5.blk _ (by simp)).trans b2
    simp (config := { maxSteps := 2000000 }) -implicitDefEqProofs (disch := (first | omega | rfl | assumption | (simp only [rsD]; first | omega | assumption))) only [c0, Nat.reduceAdd, Nat.reduceMul, Nat.reduceLT, Int.reduceToNat, Int.reduceAdd, Int.reduceSub, Int.reduceMul, rsU, rsC]
    refine Ok.step (doc σ2) fun r ⟨⟨v', g1, a', b', c', e', hst⟩, E3⟩ => ?_
    obtain ⟨q, σ3⟩ := r
    simp only at g1 E3
    subst g1
    subst e'
    have l2 := h1.p.mi.lt
    have n2 := q5.next
    have d0 : σ3.blk σ.next = _ := (E3.blk _ (by omega)).trans c0
    have d2 : σ3.blk (σ.next + 1 + 1) = _ := (E3.blk _ (by omega)).trans c2
    have hcode : S.code (tok i g) = 0 := by unfold HS.code; rw [hat]
    have ec : ((0 : Int) == S.code (tok i g)) = true := by rw [hcode]; rfl
    simp (config := { maxSteps := 2000000 }) -implicitDefEqProofs (disch := (first | omega | rfl | assumption | (simp only [rsD]; first | omega | assumption))) only [HS.vs, d0, d2, ec, Nat.reduceAdd, Nat.reduceMul, Nat.reduceLT, Int.reduceToNat, Int.reduceAdd, Int.reduceSub, Int.reduceMul, rsU, rsC]
    obtain ⟨f1, f2⟩ := fin18 h (σ4 := ((σ3.put σ.next (.cells true T_haymowref18_State ((S.drop (tok i g)).vs a' b' c'))).put (σ.next + 1 + 1) (.cells true T_haymowref18_State ((S.drop (tok i g)).vs a' b' c')))) k1 q5 E3 p3 rfl fun b x1 x2 x3 => by simp -implicitDefEqProofs (disch := omega) only [s_bn, s_bs, s_kn, bump_blk]
    have r1 := q1.r
    have r2 := q1.w
    exact Ok_some.2 ⟨⟨S.drop (tok i g), a', b', c', P2, _, M2, w2, 12, rfl, hst, s1, s2, f1, by omega, by omega, by omega, q1.len, p4⟩, f2⟩
  · have hno : ∀ i g x, vw P.E i = some (true, g, x) → t ≠ tok i g := fun i g x hv e => hy ⟨i, g, x, hv, e⟩
    have hat := sim.no hno
    refine Ok.step (hdrop_no h1 ⟨by omega, by omega⟩ ht hno) fun r ⟨p1, M2, dr, p3, q1, q2, q3, q5⟩ => ?_
    obtain ⟨q, σ2⟩ := r
    simp only at p1 p3 q5
    subst p1
    have c0 : σ2.blk σ.next = _ := (q5.blk _ (by simp)).trans b0
    have c2 : σ2.blk (σ.next + 1 + 1) = _ := (q5.blk _ (by simp)).trans b2
    simp (config := { maxSteps := 2000000 }) -implicitDefEqProofs (disch := (first | omega | rfl | assumption | (simp only [rsD]; first | omega | assumption))) only [c0, Nat.reduceAdd, Nat.reduceMul, Nat.reduceLT, Int.reduceToNat, Int.reduceAdd, Int.reduceSub, Int.reduceMul, rsU, rsC]
    refine Ok.step (doc σ2) fun r ⟨⟨v', g1, a', b', c', e', hst⟩, E3⟩ => ?_
    obtain ⟨q, σ3⟩ := r
    simp only at g1 E3
    subst g1
    subst e'
    have n2 := q5.next
    have d0 : σ3.blk σ.next = _ := (E3.blk _ (by omega)).trans c0
    have d2 : σ3.blk (σ.next + 1 + 1) = _ := (E3.blk _ (by omega)).trans c2
    have hcode : S.code t = 30 := by unfold HS.code; rw [hat]
    have hdr : S.drop t = S := by unfold HS.drop; rw [hat]
    rw [hdr] at hst
    have ec : ((30 : Int) == S.code t) = true := by rw [hcode]; rfl
    rw [hdr]
    simp (config := { maxSteps := 2000000 }) -implicitDefEqProofs (disch := (first | omega | rfl | assumption | (simp only [rsD]; first | omega | assumption))) only [HS.vs, d0, d2, ec, Nat.reduceAdd, Nat.reduceMul, Nat.reduceLT, Int.reduceToNat, Int.reduceAdd, Int.reduceSub, Int.reduceMul, rsU, rsC]
    obtain ⟨f1, f2⟩ := fin18 h (σ4 := ((σ3.put σ.next (.cells true T_haymowref18_State (S.vs a' b' c'))).put (σ.next + 1 + 1) (.cells true T_haymowref18_State (S.vs a' b' c')))) k1 q5 E3 p3 rfl fun b x1 x2 x3 => by simp -implicitDefEqProofs (disch := omega) only [s_bn, s_bs, s_kn, bump_blk]
    have r1 := q1.r
    have r2 := q1.w
    exact Ok_some.2 ⟨⟨S, a', b', c', P, _, M2, w, 12, rfl, hst, sim, bd.up, f1, by omega, by omega, by omega, q1.len, rfl⟩, f2⟩
theorem do18_set {o1 o3 : Int} {bb : Bool} {t : Int} (ht : -9223372036854775808 ≤ t ∧ t ≤ 9223372036854775807) :
    Ok (law18_do [.p (some (.n hb, 0)), .agg (S.vs a b c), .agg [.i .i64 3, .i .i64 o1, .b bb, .i .u64 o3], .i .i64 t] σ) (HDid σ hb pb mb M P X k) := by
  have e1 : ((3 : Int) == 1) = false := rfl
  have e2 : ((3 : Int) == 2) = false := rfl
  have e3 : ((3 : Int) == 3) = true := rfl
  have hce := h.ce
  have hbe := bd.e
  have hll := sim.ll
  simp (config := { maxSteps := 2000000 }) -implicitDefEqProofs (disch := (first | omega | rfl | assumption | (simp only [rsD]; first | omega | assumption))) only [law18_do, law18_do_c, HS.vs, e1, e2, e3, Nat.reduceAdd, Nat.reduceMul, Nat.reduceLT, Int.reduceToNat, Int.reduceAdd, Int.reduceSub, Int.reduceMul, rsU, rsC]
  generalize hσ : AH.put _ (σ.next + 1 + 1) _ = σ1
  obtain ⟨h1, k1, b0, b1, b2, n1⟩ := hboxes h hσ
  clear hσ
  have doc : ∀ σ2 : AH O, Ok (haymowref18_Set [.agg [.i .i64 S.D.words, .sl a S.D.L.length, .sl b S.D.free.length, .i .i64 S.D.room, .sl c S.L.length], .i .i64 t, .i .u64 o3] σ2) fun r => (∃ v', r.1 = .tup [v', .i .i64 (S.code t)] ∧ (S.set t o3).at_ v') ∧ Ext σ2 r.2 := fun σ2 => rhset_ok hs (by omega)
  by_cases hy : ∃ i g x, vw P.E i = some (true, g, x) ∧ t = tok i g
  · obtain ⟨i, g, x, hv, rfl⟩ := hy
    obtain ⟨d, y, hd, hat, hL, hxy⟩ := sim.yes h hv
    refine Ok.step (hsetx_ok h1 ⟨by omega, by omega⟩ (x := o3) hv) fun r ⟨p1, M2, w2, P2, p3, p4, p5, p6, q1, q5⟩ => ?_
    obtain ⟨q, σ2⟩ := r
    simp only at p1 p3 q5
    subst p1
    have s1 := sim.set p4 hd h.l.nd hat hL p5 p6
    have s2 := bd.like p4
    have c0 : σ2.blk σ.next = _ := (q5.blk _ (by simp)).trans b0
    have c1 : σ2.blk (σ.next + 1) = _ := (q5.blk _ (by simp)).trans b1
    have c2 : σ2.blk (σ.next + 1 + 1) = _ := (q5.blk _ (by simp)).trans b2
    simp (config := { maxSteps := 2000000 }) -implicitDefEqProofs (disch := (first | omega | rfl | assumption | (simp only [rsD]; first | omega | assumption))) only [c0, c1, Nat.reduceAdd, Nat.reduceMul, Nat.reduceLT, Int.reduceToNat, Int.reduceAdd, Int.reduceSub, Int.reduceMul, rsU, rsC]
    refine Ok.step (doc σ2) fun r ⟨⟨v', g1, a', b', c', e', hst⟩, E3⟩ => ?_
    obtain ⟨q, σ3⟩ := r
    simp only at g1 E3
    subst g1
    subst e'
    have n2 := q5.next
    have d0 : σ3.blk σ.next = _ := (E3.blk _ (by omega)).trans c0
    have d2 : σ3.blk (σ.next + 1 + 1) = _ := (E3.blk _ (by omega)).trans c2
    have hcode : S.code (tok i g) = 0 := by unfold HS.code; rw [hat]
    have ec : ((0 : Int) == S.code (tok i g)) = true := by rw [hcode]; rfl
    simp (config := { maxSteps := 2000000 }) -implicitDefEqProofs (disch := (first | omega | rfl | assumption | (simp only [rsD]; first | omega | assumption))) only [HS.vs, d0, d2, ec, Nat.reduceAdd, Nat.reduceMul, Nat.reduceLT, Int.reduceToNat, Int.reduceAdd, Int.reduceSub, Int.reduceMul, rsU, rsC]
    obtain ⟨f1, f2⟩ := fin18 h (σ4 := ((σ3.put σ.next (.cells true T_haymowref18_State ((S.set (tok i g) o3).vs a' b' c'))).put (σ.next + 1 + 1) (.cells true T_haymowref18_State ((S.set (tok i g) o3).vs a' b' c')))) k1 q5 E3 p3 rfl fun b x1 x2 x3 => by simp -implicitDefEqProofs (disch := omega) only [s_bn, s_bs, s_kn, bump_blk]
    have r1 := q1.r
    have r2 := q1.w
    exact Ok_some.2 ⟨⟨S.set (tok i g) o3, a', b', c', P2, C, M2, w2, 6, rfl, hst, s1, s2, f1, by omega, by omega, by omega, q1.len, p4.id⟩, f2⟩
  · have hno : ∀ i g x, vw P.E i = some (true, g, x) → t ≠ tok i g := fun i g x hv e => hy ⟨i, g, x, hv, e⟩
    have hat := sim.no hno
    refine Ok.step (hset_no h1 ⟨by omega, by omega⟩ ht hno) fun r ⟨p1, M2, dr, p3, q1, q2, q3, q5⟩ => ?_
    obtain ⟨q, σ2⟩ := r
    simp only at p1 p3 q5
    subst p1
    have c0 : σ2.blk σ.next = _ := (q5.blk _ (by simp)).trans b0
    have c1 : σ2.blk (σ.next + 1) = _ := (q5.blk _ (by simp)).trans b1
    have c2 : σ2.blk (σ.next + 1 + 1) = _ := (q5.blk _ (by simp)).trans b2
    simp (config := { maxSteps := 2000000 }) -implicitDefEqProofs (disch := (first | omega | rfl | assumption | (simp only [rsD]; first | omega | assumption))) only [c0, c1, Nat.reduceAdd, Nat.reduceMul, Nat.reduceLT, Int.reduceToNat, Int.reduceAdd, Int.reduceSub, Int.reduceMul, rsU, rsC]
    refine Ok.step (doc σ2) fun r ⟨⟨v', g1, a', b', c', e', hst⟩, E3⟩ => ?_
    obtain ⟨q, σ3⟩ := r
    simp only at g1 E3
    subst g1
    subst e'
    have n2 := q5.next
    have d0 : σ3.blk σ.next = _ := (E3.blk _ (by omega)).trans c0
    have d2 : σ3.blk (σ.next + 1 + 1) = _ := (E3.blk _ (by omega)).trans c2
    have hcode : S.code t = 30 := by unfold HS.code; rw [hat]
    have hdr : S.set t o3 = S := by unfold HS.set; rw [hat]
    rw [hdr] at hst
    have ec : ((30 : Int) == S.code t) = true := by rw [hcode]; rfl
    rw [hdr]
    simp (config := { maxSteps := 2000000 }) -implicitDefEqProofs (disch := (first | omega | rfl | assumption | (simp only [rsD]; first | omega | assumption))) only [HS.vs, d0, d2, ec, Nat.reduceAdd, Nat.reduceMul, Nat.reduceLT, Int.reduceToNat, Int.reduceAdd, Int.reduceSub, Int.reduceMul, rsU, rsC]
    obtain ⟨f1, f2⟩ := fin18 h (σ4 := ((σ3.put σ.next (.cells true T_haymowref18_State (S.vs a' b' c'))).put (σ.next + 1 + 1) (.cells true T_haymowref18_State (S.vs a' b' c')))) k1 q5 E3 p3 rfl fun b x1 x2 x3 => by simp -implicitDefEqProofs (disch := omega) only [s_bn, s_bs, s_kn, bump_blk]
    have r1 := q1.r
    have r2 := q1.w
    exact Ok_some.2 ⟨⟨S, a', b', c', P, _, M2, w, 6, rfl, hst, sim, bd.up, f1, by omega, by omega, by omega, q1.len, rfl⟩, f2⟩
theorem do18_get {o1 o3 : Int} {bb : Bool} {t : Int} (ht : -9223372036854775808 ≤ t ∧ t ≤ 9223372036854775807) :
    Ok (law18_do [.p (some (.n hb, 0)), .agg (S.vs a b c), .agg [.i .i64 2, .i .i64 o1, .b bb, .i .u64 o3], .i .i64 t] σ) (HDid σ hb pb mb M P X k) := by
  have e1 : ((2 : Int) == 1) = false := rfl
  have e2 : ((2 : Int) == 2) = true := rfl
  have hce := h.ce
  have hbe := bd.e
  have hll := sim.ll
  simp (config := { maxSteps := 2000000 }) -implicitDefEqProofs (disch := (first | omega | rfl | assumption | (simp only [rsD]; first | omega | assumption))) only [law18_do, law18_do_c, HS.vs, e1, e2, Nat.reduceAdd, Nat.reduceMul, Nat.reduceLT, Int.reduceToNat, Int.reduceAdd, Int.reduceSub, Int.reduceMul, rsU, rsC]
  generalize hσ : AH.put _ (σ.next + 1 + 1) _ = σ1
  obtain ⟨h1, k1, b0, b1, b2, n1⟩ := hboxes h hσ
  clear hσ
  have doc : ∀ σ2 : AH O, Ok (haymowref18_At [.agg [.i .i64 S.D.words, .sl a S.D.L.length, .sl b S.D.free.length, .i .i64 S.D.room, .sl c S.L.length], .i .i64 t] σ2) fun r => r.1 = .i .i64 (S.atI t) ∧ Ext σ2 r.2 := fun σ2 => rhat_ok hs (by omega)
  by_cases hy : ∃ i g x, vw P.E i = some (true, g, x) ∧ t = tok i g
  · obtain ⟨i, g, x, hv, rfl⟩ := hy
    obtain ⟨d, y, hd, hat, hL, rfl⟩ := sim.yes h hv
    refine Ok.step (hget_ok h1 ⟨by omega, by omega⟩ hv) fun r ⟨p1, M2, p3, q1, q5⟩ => ?_
    obtain ⟨q, σ2⟩ := r
    simp only at p1 p3 q5
    subst p1
    have c0 : σ2.blk σ.next = _ := (q5.blk _ (by simp)).trans b0
    have c2 : σ2.blk (σ.next + 1 + 1) = _ := (q5.blk _ (by simp)).trans b2
    simp (config := { maxSteps := 2000000 }) -implicitDefEqProofs (disch := (first | omega | rfl | assumption | (simp only [rsD]; first | omega | assumption))) only [c0, Nat.reduceAdd, Nat.reduceMul, Nat.reduceLT, Int.reduceToNat, Int.reduceAdd, Int.reduceSub, Int.reduceMul, rsU, rsC]
    refine Ok.step (doc σ2) fun r ⟨g1, E3⟩ => ?_
    obtain ⟨q, σ3⟩ := r
    simp only at g1 E3
    have hai : S.atI (tok i g) = (d : Int) := by unfold HS.atI; rw [hat]
    rw [hai] at g1
    subst g1
    have n2 := q5.next
    have d0 : σ3.blk σ.next = _ := (E3.blk _ (by omega)).trans c0
    have d2 : σ3.blk (σ.next + 1 + 1) = _ := (E3.blk _ (by omega)).trans c2
    have hdl := (List.getElem?_eq_some_iff.1 hL).1
    obtain ⟨qb, qo, rfl, hld⟩ := Imm.row hcell_len hs.l hL (by decide)
    have ld1 : ∀ σ : AH O, σ.ld qb (qo + d * 2 + 1) = some (.i .u64 y) := fun σ => hld O σ 1 (by decide)
    have ec : (y == y) = true := beq_self_eq_true y
    have ez : ((0 : Int) == 0) = true := rfl
    simp (config := { maxSteps := 2000000 }) -implicitDefEqProofs (disch := (first | omega | rfl | assumption | (simp only [rsD]; first | omega | assumption))) only [d0, d2, ld1, ec, ez, eq_self, Nat.reduceAdd, Nat.reduceMul, Nat.reduceLT, Int.reduceToNat, Int.reduceAdd, Int.reduceSub, Int.reduceMul, rsU, rsC]
    obtain ⟨f1, f2⟩ := fin18 h (σ4 := σ3.put (σ.next + 1 + 1) (.cells true T_haymowref18_State (S.vs a b (.loc qb qo 2)))) k1 q5 E3 p3 rfl fun b x1 x2 x3 => by simp -implicitDefEqProofs (disch := omega) only [s_bn, s_bs, s_kn, bump_blk]
    have r1 := q1.r
    have r2 := q1.w
    exact Ok_some.2 ⟨⟨S, a, b, _, P, C, M2, w, 6, rfl, hs, sim, bd.up, f1, by omega, by omega, by omega, q1.len, rfl⟩, f2⟩
  · have hno : ∀ i g x, vw P.E i = some (true, g, x) → t ≠ tok i g := fun i g x hv e => hy ⟨i, g, x, hv, e⟩
    have hat := sim.no hno
    refine Ok.step (hget_no h1 ⟨by omega, by omega⟩ ht hno) fun r ⟨p1, M2, dr, p3, q1, q2, q3, q5⟩ => ?_
    obtain ⟨q, σ2⟩ := r
    simp only at p1 p3 q5
    subst p1
    have c0 : σ2.blk σ.next = _ := (q5.blk _ (by simp)).trans b0
    have c2 : σ2.blk (σ.next + 1 + 1) = _ := (q5.blk _ (by simp)).trans b2
    simp (config := { maxSteps := 2000000 }) -implicitDefEqProofs (disch := (first | omega | rfl | assumption | (simp only [rsD]; first | omega | assumption))) only [c0, Nat.reduceAdd, Nat.reduceMul, Nat.reduceLT, Int.reduceToNat, Int.reduceAdd, Int.reduceSub, Int.reduceMul, rsU, rsC]
    refine Ok.step (doc σ2) fun r ⟨g1, E3⟩ => ?_
    obtain ⟨q, σ3⟩ := r
    simp only at g1 E3
    have hai : S.atI t = -1 := by unfold HS.atI; rw [hat]
    rw [hai] at g1
    subst g1
    have n2 := q5.next
    have d0 : σ3.blk σ.next = _ := (E3.blk _ (by omega)).trans c0
    have d2 : σ3.blk (σ.next + 1 + 1) = _ := (E3.blk _ (by omega)).trans c2
    have ez : ((0 : Int) == 0) = true := rfl
    have e30 : ((30 : Int) == 30) = true := rfl
    simp (config := { maxSteps := 2000000 }) -implicitDefEqProofs (disch := (first | omega | rfl | assumption | (simp only [rsD]; first | omega | assumption))) only [d0, d2, ez, e30, eq_self, Nat.reduceAdd, Nat.reduceMul, Nat.reduceLT, Int.reduceToNat, Int.reduceAdd, Int.reduceSub, Int.reduceMul, rsU, rsC]
    obtain ⟨f1, f2⟩ := fin18 h (σ4 := σ3.put (σ.next + 1 + 1) (.cells true T_haymowref18_State (S.vs a b c))) k1 q5 E3 p3 rfl fun b x1 x2 x3 => by simp -implicitDefEqProofs (disch := omega) only [s_bn, s_bs, s_kn, bump_blk]
    have r1 := q1.r
    have r2 := q1.w
    exact Ok_some.2 ⟨⟨S, a, b, c, P, _, M2, w, 6, rfl, hs, sim, bd.up, f1, by omega, by omega, by omega, q1.len, rfl⟩, f2⟩
end
end Go.Abs.Try
set_option linter.unusedSimpArgs false
set_option linter.unusedVariables false
set_option linter.unusedSectionVars false
set_option maxHeartbeats 2000000
namespace Go.Abs.Try
open Go Go.Abs
variable {O : Type}

theorem same05_ok {σ : AH O} {a b : SA} {l : List Int} (ha : Rd σ 1 a l.length (l.map (AV.i .u64))) (hb : Rd σ 1 b l.length (l.map (AV.i .u64))) (hl : l.length ≤ 100000) : Ok (haymowref05_Same [.sl a l.length, .sl b l.length] σ) fun r => r = (.b true, σ) := by
  have q0 : ((l.length : Int) == (l.length : Int)) = true := by simp
  simp (config := { maxSteps := 2000000 }) -implicitDefEqProofs (disch := (first | omega | rfl | assumption | (simp only [rsD]; first | omega | assumption))) only [haymowref05_Same, haymowref05_Same_c, q0, Nat.reduceAdd, Nat.reduceMul, Nat.reduceLT, Int.reduceToNat, Int.reduceAdd, Int.reduceSub, Int.reduceMul, rsU, rsC]
  refine Ok.bindS (Q := fun r => r = .inl ([], σ)) ?_ ?_ (fun r h => by cases h)
  · refine Ok.count l.length (fun k s => s = ([.i .i64 (k : Int)], σ)) ?_ ?_ rfl
    · rintro k s hk rfl
      have hx : (l.map (AV.i .u64))[k]? = some (.i .u64 l[k]) := by simp [hk]
      generalize l[k] = x at hx
      obtain ⟨b1, o1, e1, l1⟩ := ha.at1 hx
      obtain ⟨b2, o2, e2, l2⟩ := hb.at1 hx
      have r1 : SA.ref a = some (b1, o1) := by rw [e1]; rfl
      have r2 : SA.ref b = some (b2, o2) := by rw [e2]; rfl
      have q1 : (x == x) = true := beq_self_eq_true x
      rw [Nat.mul_one] at l1 l2
      simp (config := { maxSteps := 2000000 }) -implicitDefEqProofs (disch := (first | omega | rfl | assumption | (simp only [rsD]; first | omega | assumption))) only [haymowref05_Same_L1, r1, r2, l1, l2, q1, Nat.mul_one, Nat.reduceAdd, Nat.reduceMul, Nat.reduceLT, Int.reduceToNat, Int.reduceAdd, Int.reduceSub, Int.reduceMul, rsU, rsC]
      exact Ok_some.2 (by simp)
    · rintro s rfl
      simp (config := { maxSteps := 2000000 }) -implicitDefEqProofs (disch := (first | omega | rfl | assumption | (simp only [rsD]; first | omega | assumption))) only [haymowref05_Same_L1, Nat.reduceAdd, Nat.reduceMul, Nat.reduceLT, Int.reduceToNat, Int.reduceAdd, Int.reduceSub, Int.reduceMul, rsU, rsC]
      exact Ok_some.2 rfl
  · rintro _ h
    cases h
    exact Ok_some.2 rfl
theorem turnV_do {p q v : AV} {σ : AH O} : callV turnV (some (.func 72, [], [p, q])) [v] σ = law18_do_1 [v, p, q] σ := rfl
/-- what was met stands in the slice of the box mk; the blocks K stand as they stood -/
structure MetI (σ0 : AH O) (M0 : MemS) (mk : Nat) (K : List Nat) (V : List (Nat × Int)) (W : Int) (Z : List Int) (n : Int) (σ : AH O) (M : MemS) (X : List Nat) : Prop where
  it : ∃ a, X = mk :: (SA.bk a ++ K) ∧ σ.blk mk = some (.cells true 108 [.sl a (((V.take Z.length).map (·.2)).filter (· != 0)).length]) ∧ OwnS σ T_uint64 1 a (((V.take Z.length).map (·.2)).filter (· != 0)).length ((((V.take Z.length).map (·.2)).filter (· != 0)).map (AV.i .u64)) ∧ ∀ q ∈ SA.bk a, q ≠ mk ∧ q ∉ K
  nk : mk ∉ K
  kp : Keep K σ0 σ
  z : Z = (V.take Z.length).map fun p => (hmore W (0, p.2)).2
  m : M.met.r + M.met.w = M0.met.r + M0.met.w + n
  r : 0 ≤ M.met.r ∧ 0 ≤ M.met.w
  sp : M.sp.length = M0.sp.length
theorem take_snoc {α : Type} {l : List α} {k : Nat} {x : α} (h : l[k]? = some x) : l.take (k + 1) = l.take k ++ [x] := by
  have hk := (List.getElem?_eq_some_iff.1 h).1
  rw [List.take_succ_eq_append_getElem hk, (List.getElem?_eq_some_iff.1 h).2]
theorem met_turner {hb pb mb : Nat} {P : PoolS} {C : List Nat} {V : List (Nat × Int)} {σ0 : AH O} {M0 : MemS} {mk ob : Nat} {K : List Nat} {W : Int} (hV : V.length ≤ 100) (hob : ob ∈ K) {el : TypeId} {v0 v1 v2 : AV} (hW : σ0.blk ob = some (.cells true el [v0, v1, v2, .i .u64 W])) (hm : M0.met.r + M0.met.w ≤ 1000000) :
    Turner hb pb mb P C V (.func 72, [], [.p (some (.n mk, 0)), .p (some (.n ob, 0))]) (MetI (O := O) σ0 M0 mk K V W) where
  calm := fun h h0 h1 h2 => by have := h.m; have := h.r; omega
  fr := fun {Z n σ M X σ' M' P w P' w' dr dw} h h1 h2 _ hw kp d1 d2 => by
    obtain ⟨a, rfl, g1, g2, g3⟩ := h.it
    have r1 := hw.r
    have r2 := hw.w
    have := h.m
    have := h.r
    refine ⟨⟨a, rfl, (kp.blk mk (by simp)).trans g1, g2.of kp.next fun q hq => kp.blk q (by simp [hq]), g3⟩, h.nk, h.kp.trans (kp.mono (by simp +contextual)), h.z, by omega, by omega, hw.len.trans h.sp⟩
  skip := fun {Z n σ M X g} hz h => by
    have e1 : ((V.take (Z ++ [0]).length).map (·.2)).filter (· != 0) = ((V.take Z.length).map (·.2)).filter (· != 0) := by
      rw [List.length_append, List.length_singleton, take_snoc hz, List.map_append, List.filter_append]; simp
    refine ⟨by rw [e1]; exact h.it, h.nk, h.kp, ?_, h.m, h.r, h.sp⟩
    rw [List.length_append, List.length_singleton, take_snoc hz, List.map_append, ← h.z]; rfl
  call := fun {fx Z n σ M P w X g x} hz hx _ hh h hfx => by
    obtain ⟨a, rfl, g1, g2, g3⟩ := h.it
    rw [turnV_do]
    have hzl := (List.getElem?_eq_some_iff.1 hz).1
    have hFl : (((V.take Z.length).map (·.2)).filter (· != 0)).length ≤ 100 := by
      refine Nat.le_trans (List.length_filter_le _ _) ?_
      simp; omega
    have e1 : ((V.take (Z.length + 1)).map (·.2)).filter (· != 0) = ((V.take Z.length).map (·.2)).filter (· != 0) ++ [x] := by
      rw [take_snoc hz, List.map_append, List.filter_append]; simp [hx]
    have e2 : Z ++ [IntKind.u64.wrap (x + W)] = (V.take (Z.length + 1)).map fun p => (hmore W (0, p.2)).2 := by
      rw [take_snoc hz, List.map_append, ← h.z]
      simp [hmore, hx]
    have hlt : ∀ q ∈ fx ++ mk :: (SA.bk a ++ K), q < σ.next := fun q hq => hh.p.mi.lt q (by simp only [List.mem_cons, hq, or_true])
    have lmk := hlt mk (by simp)
    have hobb := (h.kp.blk ob hob).trans hW
    have lob := hlt ob (by simp [hob])
    have nob : ob ≠ mk := fun e => h.nk (e ▸ hob)
    have noa : ob ∉ SA.bk a := fun hm => (g3 ob hm).2 hob
    generalize ((V.take Z.length).map (·.2)).filter (· != 0) = F at *
    simp (config := { maxSteps := 2000000 }) -implicitDefEqProofs (disch := (first | omega | rfl | assumption | (simp only [rsD]; first | omega | assumption))) only [law18_do_1, law18_do_1_c, g1, Nat.reduceAdd, Nat.reduceMul, Nat.reduceLT, Int.reduceToNat, Int.reduceAdd, Int.reduceSub, Int.reduceMul, rsU, rsC]
    generalize hσ : (σ.bump 2).put σ.next _ = σ1
    have n1 : σ1.next = σ.next + 2 := by rw [← hσ]; rfl
    have o1 : ∀ q, q ≠ σ.next → σ1.blk q = σ.blk q := fun q hq => by rw [← hσ]; exact s_bn hq
    clear hσ
    have w1 := g2.of (σ' := σ1) (by omega) fun q hq => o1 q (by have := g2.lt q hq; omega)
    refine Ok.step (app_ok (nid := σ.next + 1) w1 (fun hm => by have := g2.lt _ hm; omega) (by omega) (show ([.i .u64 x] : List AV).length = 1 * 1 from rfl)) fun q ⟨a2, m1, m2, m3, m4, m5⟩ => ?_
    obtain ⟨q, σ2⟩ := q
    simp only at m1 m2 m3 m4
    subst m1
    have nmk : mk ∉ SA.bk a := fun hm => (g3 mk hm).1 rfl
    have b2 : σ2.blk mk = _ := (m4 mk (by omega) nmk).trans ((o1 mk (by omega)).trans g1)
    have c2 : σ2.blk ob = _ := (m4 ob (by omega) noa).trans ((o1 ob (by omega)).trans hobb)
    simp (config := { maxSteps := 2000000 }) -implicitDefEqProofs (disch := (first | omega | rfl | assumption | (simp only [rsD]; first | omega | assumption))) only [b2, c2, Nat.reduceAdd, Nat.reduceMul, Nat.reduceLT, Int.reduceToNat, Int.reduceAdd, Int.reduceSub, Int.reduceMul, rsU, rsC]
    generalize hσ : σ2.put mk _ = σ3
    have n3 : σ3.next = σ2.next := by rw [← hσ]; rfl
    have b3 : σ3.blk mk = some (.cells true 108 [.sl a2 (F.length + 1)]) := by rw [← hσ]; exact s_bs
    have o3 : ∀ q, q ≠ mk → σ3.blk q = σ2.blk q := fun q hq => by rw [← hσ]; exact s_bn hq
    clear hσ
    have oa : ∀ q, q < σ.next → q ≠ mk → q ∉ SA.bk a → σ3.blk q = σ.blk q := fun q hq h1 h2 => by rw [o3 q h1, m4 q (by omega) h2, o1 q (by omega)]
    have chg : Chg (mk :: SA.bk a) σ σ3 := ⟨by omega, fun q hq hm => by
      simp only [List.mem_cons, not_or] at hm
      exact oa q hq hm.1 hm.2⟩
    have h3 := hh.turn (Y := fx ++ mk :: (SA.bk a2 ++ K)) chg (fun q hq => .inl (by
      simp only [List.mem_cons] at hq
      rcases hq with rfl | hq
      · simp
      · simp [hq])) fun q hq => by
      simp only [List.mem_append, List.mem_cons] at hq
      rcases hq with hq | rfl | hq | hq
      · exact .inl (by simp [hq])
      · exact .inl (by simp)
      · have := m5 q hq; exact .inr (by omega)
      · exact .inl (by simp [hq])
    refine Ok_some.2 ⟨_, rfl, M, mk :: (SA.bk a2 ++ K), h3, fun q hq => ⟨fun hm => ?_, ?_⟩, ⟨⟨a2, rfl, ?_, ?_, fun q hq => ⟨?_, fun hm => ?_⟩⟩, h.nk, ⟨by have := h.kp.next; show σ0.next ≤ σ3.next; omega, fun q hq => ?_⟩, ?_, h.m, h.r, h.sp⟩⟩
    · have hq' := hfx q hq
      have := hlt q (by simp [hq])
      simp only [List.mem_cons, List.mem_append, not_or] at hm hq'
      rcases hm with hm | hm | hm
      · exact hq'.1 hm
      · have := m5 q hm; omega
      · exact hq'.2.2 hm
    · have hq' := hfx q hq
      simp only [List.mem_cons, List.mem_append, not_or] at hq'
      exact oa q (hlt q (by simp [hq])) hq'.1 hq'.2.1
    · simp only [List.length_append, List.length_singleton]
      rw [e1]
      simp only [List.length_append, List.length_singleton]
      exact b3
    · simp only [List.length_append, List.length_singleton]
      rw [e1]
      simp only [List.length_append, List.length_singleton, List.map_append, List.map_cons, List.map_nil]
      exact m2.of (show σ2.next ≤ σ3.next by omega) fun q hq => o3 q (by have := m5 q hq; omega)
    · have := m5 q hq; omega
    · have := m5 q hq
      have := hlt q (by simp [hm])
      omega
    · have := hlt q (by simp [hq])
      rw [oa q this (fun e => h.nk (e ▸ hq)) (fun hm => (g3 q hm).2 hq)]
      exact h.kp.blk q hq
    · rw [List.length_append, List.length_singleton]
      exact e2
end Go.Abs.Try
set_option linter.unusedSimpArgs false
set_option linter.unusedVariables false
set_option linter.unusedSectionVars false
set_option maxHeartbeats 2000000
namespace Go.Abs.Try
open Go Go.Abs
variable {O : Type}

section
variable {σ : AH O} {hb pb mb : Nat} {M : MemS} {P : PoolS} {C : List Nat} {w : List Int} {X : List Nat}
variable {S : HS} {k : Nat} {a b c : SA} (h : HanAt σ hb pb mb M P C w X) (sim : HSim S P C) (bd : HBd k P) (hk : k < 80) (hs : S.st a b c) (hm : 0 ≤ M.met.r ∧ 0 ≤ M.met.w ∧ M.met.r + M.met.w ≤ 1000000)
include sim
theorem HSim.vals : ∃ V : List (Nat × Int), V.length = C.length ∧ (∀ (j i : Nat), C[j]? = some i → ∃ g x, V[j]? = some (g, x) ∧ vw P.E i = some (true, g, some x)) ∧ V.map (·.2) = S.L.map (·.2) := by
  have hV : ∀ (j i : Nat), C[j]? = some i → ∃ g x, (C.map fun i => match vw P.E i with | some (_, g, some x) => (g, x) | _ => ((0 : Nat), (0 : Int)))[j]? = some (g, x) ∧ vw P.E i = some (true, g, some x) := fun j i hj => by
    obtain ⟨g, x, h1, h2⟩ := sim.at_ j i hj
    exact ⟨g, x, by rw [List.getElem?_map, hj]; simp [h2], h2⟩
  refine ⟨_, by simp, hV, ?_⟩
  apply List.ext_getElem?
  intro j
  rw [List.getElem?_map, List.getElem?_map (l := S.L)]
  cases hc : C[j]? with
  | none =>
    have := List.getElem?_eq_none_iff.1 hc
    rw [List.getElem?_eq_none (by simp; omega), List.getElem?_eq_none (by rw [sim.ll]; omega)]; rfl
  | some i =>
    obtain ⟨g, x, h1, h2⟩ := sim.at_ j i hc
    obtain ⟨g', x', k1, k2⟩ := hV j i hc
    rw [h2] at k2
    simp only [Option.some.injEq, Prod.mk.injEq, true_and] at k2
    obtain ⟨rfl, rfl⟩ := k2
    rw [k1, h1]; rfl
include h bd hk hs hm
theorem do18_turn {o0 o1 W : Int} {bb : Bool} {t : Int} (h0 : o0 ≠ 1 ∧ o0 ≠ 2 ∧ o0 ≠ 3) :
    Ok (law18_do [.p (some (.n hb, 0)), .agg (S.vs a b c), .agg [.i .i64 o0, .i .i64 o1, .b bb, .i .u64 W], .i .i64 t] σ) (HDid σ hb pb mb M P X k) := by
  have e1 := s_eqF h0.1
  have e2 := s_eqF h0.2.1
  have e3 := s_eqF h0.2.2
  have hce := h.ce
  have hbe := bd.e
  have hll := sim.ll
  obtain ⟨V, hVl, hV, hVS⟩ := sim.vals
  simp (config := { maxSteps := 2000000 }) -implicitDefEqProofs (disch := (first | omega | rfl | assumption | (simp only [rsD]; first | omega | assumption))) only [law18_do, law18_do_c, HS.vs, e1, e2, e3, Nat.reduceAdd, Nat.reduceMul, Nat.reduceLT, Int.reduceToNat, Int.reduceAdd, Int.reduceSub, Int.reduceMul, rsU, rsC]
  generalize hσ : (((σ.bump 3).put σ.next _).put (σ.next + 1) _).put (σ.next + 1 + 1) _ = σ1
  obtain ⟨h1, k1, b0, b1, b2, n1⟩ := hboxes h hσ
  clear hσ
  generalize hσ : AH.put _ (σ.next + 3) _ = σ2
  have E2 : Ext σ1 σ2 := by rw [← hσ]; exact ((Ext.refl σ1).bump 1).put (by omega) _
  have n2 : σ2.next = σ.next + 4 := by rw [← hσ]; simp; omega
  have b3 : σ2.blk (σ.next + 3) = some (.cells true 108 [.sl .nil 0]) := by rw [← hσ]; exact s_bs
  clear hσ
  have c0 : σ2.blk σ.next = _ := (E2.blk _ (by omega)).trans b0
  have c1 : σ2.blk (σ.next + 1) = _ := (E2.blk _ (by omega)).trans b1
  have c2 : σ2.blk (σ.next + 1 + 1) = _ := (E2.blk _ (by omega)).trans b2
  have hX : ∀ q ∈ X, q < σ.next := fun q hq => h.p.mi.lt q (by simp [hq])
  have h2 : HanAt σ2 hb pb mb M P C w ((σ.next + 3) :: (SA.bk .nil ++ (σ.next :: (σ.next + 1) :: (σ.next + 1 + 1) :: X))) := h1.turn (L := []) E2.chg (by simp) fun q hq => by
    simp only [SA.bk, List.nil_append, List.mem_cons] at hq
    rcases hq with rfl | hq
    · exact .inr (by omega)
    · exact .inl (by simpa using hq)
  have nK : (σ.next + 3) ∉ (σ.next :: (σ.next + 1) :: (σ.next + 1 + 1) :: X) := fun hmm => by
    simp only [List.mem_cons] at hmm
    rcases hmm with e | e | e | e
    · omega
    · omega
    · omega
    · have := hX _ e; omega
  have T := met_turner (O := O) (hb := hb) (pb := pb) (mb := mb) (P := P) (C := C) (V := V) (σ0 := σ2) (M0 := M) (mk := σ.next + 3) (ob := σ.next + 1) (K := σ.next :: (σ.next + 1) :: (σ.next + 1 + 1) :: X) (W := W) (by omega) (by simp) c1 (by omega)
  refine Ok.step (hturn_ok T h2 hV ⟨⟨.nil, rfl, b3, OwnS.nil _ _ _, by simp [SA.bk]⟩, nK, Keep.refl _ _, rfl, by simp, by omega, rfl⟩) fun r ⟨g1, Z, n, M3, P3, w3, X3, g2, h3, L3, g4, g5, g6, g7⟩ => ?_
  obtain ⟨q, σ3⟩ := r
  simp only at g1 h3 g5
  subst g1
  obtain ⟨a3, eX, d3, w3', x3⟩ := g5.it
  have hz := g5.z
  rw [g2, ← hVl, List.take_length] at hz
  rw [g2, ← hVl, List.take_length, hVS] at d3 w3'
  simp (config := { maxSteps := 2000000 }) -implicitDefEqProofs (disch := (first | omega | rfl | assumption | (simp only [rsD]; first | omega | assumption))) only [Nat.reduceAdd, Nat.reduceMul, Nat.reduceLT, Int.reduceToNat, Int.reduceAdd, Int.reduceSub, Int.reduceMul, rsU, rsC]
  refine Ok.step hturn_nil fun r ⟨g8, E4⟩ => ?_
  obtain ⟨q, σ4⟩ := r
  simp only at g8 E4
  subst g8
  have l3 := h3.p.mi.lt
  subst eX
  have hkp := g5.kp
  have n3 := hkp.next
  have q0 : σ4.blk σ.next = _ := (E4.blk _ (l3 _ (by simp))).trans ((hkp.blk _ (by simp)).trans c0)
  have q1 : σ4.blk (σ.next + 1) = _ := (E4.blk _ (l3 _ (by simp))).trans ((hkp.blk _ (by simp)).trans c1)
  have q2 : σ4.blk (σ.next + 1 + 1) = _ := (E4.blk _ (l3 _ (by simp))).trans ((hkp.blk _ (by simp)).trans c2)
  have q3 : σ4.blk (σ.next + 3) = _ := (E4.blk _ (l3 _ (by simp))).trans d3
  simp (config := { maxSteps := 2000000 }) -implicitDefEqProofs (disch := (first | omega | rfl | assumption | (simp only [rsD]; first | omega | assumption))) only [q0, q1, q3, Nat.reduceAdd, Nat.reduceMul, Nat.reduceLT, Int.reduceToNat, Int.reduceAdd, Int.reduceSub, Int.reduceMul, rsU, rsC]
  have more := rhmore_ok (σ := σ4) hs (by omega) (x := W)
  simp only [HS.vs] at more
  refine Ok.step more fun r ⟨⟨a', b', c', e', hst⟩, E5⟩ => ?_
  obtain ⟨q, σ5⟩ := r
  simp only at e' E5
  subst e'
  have n4 := E4.next
  have n5 := E5.next
  have r0 : σ5.blk σ.next = _ := (E5.blk _ (by omega)).trans q0
  have r2 : σ5.blk (σ.next + 1 + 1) = _ := (E5.blk _ (by omega)).trans q2
  have r3 : σ5.blk (σ.next + 3) = _ := (E5.blk _ (by omega)).trans q3
  simp (config := { maxSteps := 2000000 }) -implicitDefEqProofs (disch := (first | omega | rfl | assumption | (simp only [rsD]; first | omega | assumption))) only [HS.vs, r0, r3, Nat.reduceAdd, Nat.reduceMul, Nat.reduceLT, Int.reduceToNat, Int.reduceAdd, Int.reduceSub, Int.reduceMul, rsU, rsC]
  have filled := rhfilled_ok (σ := σ5) hs (by omega)
  simp only [HS.vs] at filled
  refine Ok.step filled fun r ⟨⟨d, g9, hd⟩, E6⟩ => ?_
  obtain ⟨q, σ6⟩ := r
  simp only at g9 E6
  subst g9
  have n6 := E6.next
  have s0 : σ6.blk σ.next = _ := (E6.blk _ (by omega)).trans r0
  have s2 : σ6.blk (σ.next + 1 + 1) = _ := (E6.blk _ (by omega)).trans r2
  have s3 : σ6.blk (σ.next + 3) = _ := (E6.blk _ (by omega)).trans r3
  have E46 := (E4.trans E5).trans E6
  have own6 : OwnS σ6 T_uint64 1 a3 S.filled.length (S.filled.map (AV.i .u64)) := w3'.of E46.next fun q hq => E46.blk q (w3'.lt q hq)
  have sm := same05_ok (σ := σ6) (l := S.filled) own6.rd (hd O σ6) (by
    refine Nat.le_trans (List.length_filter_le _ _) ?_
    simp; omega)
  have eF : (List.filter (fun x => !x == 0) (S.L.map (·.2))) = S.filled := rfl
  have eF2 : (List.filter (fun x => x != 0) (S.L.map (·.2))) = S.filled := rfl
  simp only [eF, eF2] at s3 ⊢
  simp (config := { maxSteps := 2000000 }) -implicitDefEqProofs (disch := (first | omega | rfl | assumption | (simp only [rsD]; first | omega | assumption))) only [s0, s3, Nat.reduceAdd, Nat.reduceMul, Nat.reduceLT, Int.reduceToNat, Int.reduceAdd, Int.reduceSub, Int.reduceMul, rsU, rsC]
  refine Ok.step sm fun r e => ?_
  subst e
  simp (config := { maxSteps := 2000000 }) -implicitDefEqProofs (disch := (first | omega | rfl | assumption | (simp only [rsD]; first | omega | assumption))) only [s0, s2, Nat.reduceAdd, Nat.reduceMul, Nat.reduceLT, Int.reduceToNat, Int.reduceAdd, Int.reduceSub, Int.reduceMul, rsU, rsC]
  obtain ⟨f1, f2⟩ := fin18 h (σ4 := σ6.put (σ.next + 1 + 1) (.cells true T_haymowref18_State ((S.more W).vs a' b' c'))) k1 (σ2 := σ3) (σ3 := σ6) ⟨by have := E2.next; omega, fun q hq => by
    rw [hkp.blk q hq]; exact E2.blk q (by
      simp only [List.mem_cons] at hq
      rcases hq with e | e | e | e
      · omega
      · omega
      · omega
      · have := hX _ e; omega)⟩ E46 (h3.mono fun q hq => by simp only [List.mem_cons, List.mem_append] at hq ⊢; simp only [hq, or_true]) rfl fun q x1 x2 x3 => by simp -implicitDefEqProofs (disch := omega) only [s_bn, s_bs, s_kn, bump_blk]
  have rr := g5.r
  have mm := g5.m
  have s1 := sim.more L3 hV fun j i hj => by rw [g4 j i hj, hz]
  exact Ok_some.2 ⟨⟨S.more W, a', b', c', P3, C, M3, w3, 6 * (S.L.length : Int), rfl, hst, s1, bd.like L3, f1, by omega, by omega, by omega, g5.sp, L3.id⟩, f2⟩
end
end Go.Abs.Try
set_option linter.unusedSimpArgs false
set_option linter.unusedVariables false
set_option linter.unusedSectionVars false
set_option maxHeartbeats 2000000
namespace Go.Abs.Try
open Go Go.Abs
variable {O : Type}

def r64 (t : Int) : Prop := -9223372036854775808 ≤ t ∧ t ≤ 9223372036854775807
theorem token18_ok {σ : AH O} {a : SA} {tl : List Int} (rd : Rd σ 1 a tl.length (tl.map (AV.i .i64))) (hn : ∀ q ∈ SA.bk a, q < σ.next) (htl : tl.length ≤ 1000) (htr : ∀ t ∈ tl, r64 t) {o0 o1 o3 : Int} {bb : Bool} (ho : r64 o1) : Ok (law18_token [.sl a tl.length, .agg [.i .i64 o0, .i .i64 o1, .b bb, .i .u64 o3]] σ) fun r => ∃ t, r.1 = .i .i64 t ∧ r64 t ∧ Ext σ r.2 := by
  have ext : ∀ x : Blk O, Ext σ ((σ.bump 1).put σ.next x) := fun x => ((Ext.refl σ).bump 1).put (Nat.le_refl _) x
  have rd1 : ∀ x : Blk O, Rd ((σ.bump 1).put σ.next x) 1 a tl.length (tl.map (AV.i .i64)) := fun x => rd.of fun q hq => (ext x).blk q (hn q hq)
  cases bb with
  | true =>
    simp (config := { maxSteps := 2000000 }) -implicitDefEqProofs (disch := (first | omega | rfl | assumption | (simp only [rsD]; first | omega | assumption))) only [law18_token, law18_token_c, Nat.reduceAdd, Nat.reduceMul, Nat.reduceLT, Int.reduceToNat, Int.reduceAdd, Int.reduceSub, Int.reduceMul, rsU, rsC]
    exact Ok_some.2 ⟨o1, rfl, ho, ext _⟩
  | false =>
    by_cases h0 : o1 ≥ 0
    · by_cases h1 : o1 < tl.length
      · obtain ⟨n, rfl⟩ := Int.eq_ofNat_of_zero_le h0
        have hx : (tl.map (AV.i .i64))[n]? = some (.i .i64 tl[n]) := by rw [List.getElem?_map, List.getElem?_eq_getElem (by omega)]; rfl
        have hr := htr tl[n] (List.getElem_mem _)
        obtain ⟨b1, o, rfl, hld⟩ := (rd1 (.cells true T_law18_Op [.i .i64 o0, .i .i64 (n : Int), .b false, .i .u64 o3])).at1 hx
        rw [Nat.mul_one] at hld
        have d0 := decide_eq_true h0
        have d1 := decide_eq_true h1
        have b0 : (true == true) = true := rfl
        simp (config := { maxSteps := 2000000 }) -implicitDefEqProofs (disch := (first | omega | rfl | assumption | (simp only [rsD]; first | omega | assumption))) only [law18_token, law18_token_c, d0, d1, b0, hld, Nat.mul_one, Nat.reduceAdd, Nat.reduceMul, Nat.reduceLT, Int.reduceToNat, Int.reduceAdd, Int.reduceSub, Int.reduceMul, rsU, rsC]
        exact Ok_some.2 ⟨_, rfl, hr, ext _⟩
      · have d0 := decide_eq_true h0
        have d1 := decide_eq_false h1
        have b0 : (true == true) = true := rfl
        simp (config := { maxSteps := 2000000 }) -implicitDefEqProofs (disch := (first | omega | rfl | assumption | (simp only [rsD]; first | omega | assumption))) only [law18_token, law18_token_c, d0, d1, b0, Nat.reduceAdd, Nat.reduceMul, Nat.reduceLT, Int.reduceToNat, Int.reduceAdd, Int.reduceSub, Int.reduceMul, rsU, rsC]
        exact Ok_some.2 ⟨o1, rfl, ho, ext _⟩
    · have d0 := decide_eq_false h0
      have b0 : (false == true) = false := rfl
      simp (config := { maxSteps := 2000000 }) -implicitDefEqProofs (disch := (first | omega | rfl | assumption | (simp only [rsD]; first | omega | assumption))) only [law18_token, law18_token_c, d0, b0, Nat.reduceAdd, Nat.reduceMul, Nat.reduceLT, Int.reduceToNat, Int.reduceAdd, Int.reduceSub, Int.reduceMul, rsU, rsC]
      exact Ok_some.2 ⟨o1, rfl, ho, ext _⟩
structure HOp where
  kind : Int
  id : Int
  raw : Bool
  w : Int
def HOp.cells (o : HOp) : List AV := [.i .i64 o.kind, .i .i64 o.id, .b o.raw, .i .u64 o.w]
theorem HOp.len (o : HOp) : o.cells.length = 4 := rfl
/-- between two calls -/
structure HpAt (σ : AH O) (hb pb mb wb : Nat) (k : Nat) (M : MemS) (S : HS) (P : PoolS) (C : List Nat) (w : List Int) (a b c ai : SA) (tl : List Int) (Y : List Nat) : Prop where
  h : HanAt σ hb pb mb M P C w (wb :: (SA.bk ai ++ Y))
  sim : HSim S P C
  bd : HBd k P
  st : S.st a b c
  bx : σ.blk wb = some (.cells true T_haymowref18_State (S.vs a b c))
  own : OwnS σ 3 1 ai tl.length (tl.map (AV.i .i64))
  na : ∀ q ∈ SA.bk ai, q ≠ wb ∧ q ∉ Y
  nw : wb ∉ Y
  tr : ∀ t ∈ tl, r64 t
  r : 0 ≤ M.met.r ∧ 0 ≤ M.met.w ∧ M.met.r + M.met.w ≤ 600 * k
  sp : M.sp.length = 1
  id : P.id = 0
  tk : tl.length ≤ k
theorem MemIn.meter {σ : AH O} {mb : Nat} {M : MemS} {X : List Nat} (h : MemIn σ mb M X) : ∃ tb el rest, σ.blk mb = some (.cells true el (.p (some (.n tb, 0)) :: rest)) ∧ MetAt σ tb M.met := by
  obtain ⟨F, h1, _⟩ := h; exact h1.meter
section
variable {σ : AH O} {hb pb mb wb k : Nat} {M : MemS} {S : HS} {P : PoolS} {C : List Nat} {w : List Int} {a b c ai : SA} {tl : List Int} {Y : List Nat}
theorem HpAt.held (h : HpAt σ hb pb mb wb k M S P C w a b c ai tl Y) : M.met.held = ((P.room * 4 : Nat) : Int) := by
  have h1 := h.h.p.mi.ok.held
  have h2 := h.h.p.p.len
  have h3 := h.h.p.now
  rw [h.id] at h3
  obtain ⟨_, h3⟩ := wordsOf_some h3
  have h4 := h.sp
  have h5 : M.sp = [(true, w)] := by
    match hs : M.sp, h4 with
    | [x], _ =>
      rw [hs] at h3
      simp at h3
      rw [h3]
  rw [h5] at h1
  simp only [List.map_cons, List.map_nil, List.sum_cons, List.sum_nil, Nat.add_zero, h2, h.h.words] at h1
  exact h1
theorem HpAt.lX (h : HpAt σ hb pb mb wb k M S P C w a b c ai tl Y) : ∀ q ∈ wb :: (SA.bk ai ++ Y), q < σ.next := fun q hq => h.h.p.mi.lt q (by simp only [List.mem_cons, hq, or_true])
theorem HpAt.ext {σ' : AH O} (h : HpAt σ hb pb mb wb k M S P C w a b c ai tl Y) (E : Ext σ σ') : HpAt σ' hb pb mb wb k M S P C w a b c ai tl Y :=
  { h with h := h.h.turn (L := []) E.chg (by simp) fun q hq => .inl hq, bx := (E.blk _ (h.lX _ (by simp))).trans h.bx, own := h.own.of E.next fun q hq => E.blk q (h.own.lt q hq) }
theorem HpAt.less (h : HpAt σ hb pb mb wb k M S P C w a b c ai tl Y) {Z : List Nat} (hz : ∀ q ∈ Z, q ∈ Y) : HpAt σ hb pb mb wb k M S P C w a b c ai tl Z :=
  have hs : ∀ q ∈ wb :: (SA.bk ai ++ Z), q ∈ wb :: (SA.bk ai ++ Y) := fun q hq => by
    simp only [List.mem_cons, List.mem_append] at hq ⊢
    rcases hq with hq | hq | hq
    · exact .inl hq
    · exact .inr (.inl hq)
    · exact .inr (.inr (hz q hq))
  { h with h := h.h.mono hs, na := fun q hq => ⟨(h.na q hq).1, fun hm => (h.na q hq).2 (hz q hm)⟩, nw := fun hm => h.nw (hz _ hm) }
/-- the frame of a step: the steps are told first -/
theorem steps_box (H : HpAt σ hb pb mb wb k M S P C w a b c ai tl []) {σ1 : AH O} (E : Ext (σ.bump 1) σ1) {x : Blk O} {σ2 : AH O} (hσ : σ1.put σ.next x = σ2) : HpAt σ2 hb pb mb wb k M S P C w a b c ai tl [σ.next] ∧ σ2.blk σ.next = some x ∧ σ.next < σ2.next := by
  subst hσ
  have n1 := E.next
  simp only [bump_next] at n1
  have hl := H.lX
  have E2 : Ext σ (σ1.put σ.next x) := (((Ext.refl σ).bump 1).trans E).put (Nat.le_refl _) x
  refine ⟨{ H with h := H.h.turn (L := []) E2.chg (by simp) (fun q hq => ?_), bx := (E2.blk _ (hl _ (by simp))).trans H.bx, own := H.own.of E2.next (fun q hq => E2.blk q (H.own.lt q hq)), na := fun q hq => ⟨(H.na q hq).1, fun hm => ?_⟩, nw := fun hm => ?_ }, s_bs, by simp; omega⟩
  · simp only [List.mem_cons, List.mem_append, List.not_mem_nil, or_false] at hq
    rcases hq with rfl | hq | rfl
    · exact .inl (by simp)
    · exact .inl (by simp [hq])
    · exact .inr ⟨Nat.le_refl _, by simp; omega⟩
  · simp at hm
    have := hl q (by simp [hq]); omega
  · simp at hm
    have := hl wb (by simp); omega
theorem wcs_at {t : Int} (h : 0 ≤ t ∧ t < 18446744073709551616) : wcs t = [.i .u64 0, .i .u64 t] := by
  unfold wcs; rw [show t / 18446744073709551616 = 0 by omega, show t % 18446744073709551616 = t by omega]
theorem steps18 {σ : AH O} {b : Nat} {M : MemS} (h : MetAt σ b M.met) (hok : M.ok) (ht : M.met.r + M.met.w < 18446744073709551616) : Ok (meter_Meter__Steps [.p (some (.n b, 0))] σ) fun r => r.1 = .agg [.i .u64 0, .i .u64 (M.met.r + M.met.w)] ∧ Ext σ r.2 := by
  have h1 := hok.met.r
  have h2 := hok.met.w
  have := steps_ok h hok.met
  rw [wcs_at (by omega)] at this
  exact this
theorem since18 {σ : AH O} {b : Nat} {M : MemS} (h : MetAt σ b M.met) (hok : M.ok) {s : Int} (h0 : 0 ≤ s) (hs : s ≤ M.met.r + M.met.w) (ht : M.met.r + M.met.w < 18446744073709551616) : Ok (meter_Meter__Since [.p (some (.n b, 0)), .agg [.i .u64 0, .i .u64 s]] σ) fun r => r.1 = .agg [.i .u64 0, .i .u64 (M.met.r + M.met.w - s)] ∧ Ext σ r.2 := by
  have := since_ok h hok.met h0 hs
  rw [wcs_at (by omega), wcs_at (by omega)] at this
  exact this
theorem cmp18 {a b : Int} {σ : AH O} (h0 : 0 ≤ a) (hab : a ≤ b) (hb : b < 4294967296) : Ok (haymowref01_Cmp [.agg [.i .u64 0, .i .u64 a], .agg [.i .u64 0, .i .u64 b]] σ) fun r => (∃ n, r.1 = .i .i64 n ∧ n ≤ 0) ∧ Ext σ r.2 := by
  have := rcmp_le (σ := σ) h0 hab hb
  rw [wcs_at (by omega), wcs_at (by omega)] at this
  exact this
theorem hplays_add (H : HpAt σ hb pb mb wb k M S P C w a b c ai tl []) (hk : k < 60) {so : SA} {N : Nat} (hkN : k < N) (hN : N ≤ 60) {o : HOp} {bb : Bid} {oo : Nat} (e : so = .loc bb oo 4) (l0 : ∀ σ : AH O, σ.ld bb (oo + k * 4) = some (.i .i64 o.kind)) (l1 : ∀ σ : AH O, σ.ld bb (oo + k * 4 + 1) = some (.i .i64 o.id)) (l2 : ∀ σ : AH O, σ.ld bb (oo + k * 4 + 1 + 1) = some (.b o.raw)) (l3 : ∀ σ : AH O, σ.ld bb (oo + k * 4 + 1 + 1 + 1) = some (.i .u64 o.w)) {r3 : AV × AH O} (hr3 : r3.2.next = wb) (h0 : o.kind = 0) :
    Ok (law18_HandlesPlay_L1 (so, N) (some (.n mb, 0)) meter_Meter__Steps handles_Handles__Add (some (.n hb, 0)) r3 haymowref18_Add law18_token law18_do meter_Meter__Since haymowref01_Cmp meter_Meter__Held handles_Handles__Count ([.sl ai tl.length, .i .i64 (k : Int)], σ)) fun r => ∃ σ' M' S' P' C' w' a' b' c' ai' tl', r = .inl ([.sl ai' tl'.length, .i .i64 ((k + 1 : Nat) : Int)], σ') ∧ HpAt σ' hb pb mb wb (k + 1) M' S' P' C' w' a' b' c' ai' tl' [] := by
  subst e
  have l3' : ∀ σ : AH O, σ.ld bb (oo + k * 4 + 3) = some (.i .u64 o.w) := l3
  have hr := H.r
  have hbx := H.bx
  have hwl := H.lX wb (by simp)
  obtain ⟨tb, el, rest, hmb, hmt⟩ := H.h.p.mi.meter
  have E0 : Ext σ (σ.bump 1) := (Ext.refl σ).bump 1
  simp (config := { maxSteps := 2000000 }) -implicitDefEqProofs (disch := (first | omega | rfl | assumption | (simp only [rsD]; first | omega | assumption))) only [law18_HandlesPlay_L1, hmb, Nat.reduceAdd, Nat.reduceMul, Nat.reduceLT, Int.reduceToNat, Int.reduceAdd, Int.reduceSub, Int.reduceMul, rsU, rsC]
  refine Ok.step (steps18 (hmt.of E0.next (E0.blk _ hmt.lt)) H.h.p.mi.ok (by omega)) fun r ⟨g1, g2⟩ => ?_
  obtain ⟨q, σ0⟩ := r
  simp only at g1 g2
  subst g1
  simp (config := { maxSteps := 2000000 }) -implicitDefEqProofs (disch := (first | omega | rfl | assumption | (simp only [rsD]; first | omega | assumption))) only [l0, l3', s_eqT h0, Nat.reduceAdd, Nat.reduceMul, Nat.reduceLT, Int.reduceToNat, Int.reduceAdd, Int.reduceSub, Int.reduceMul, rsU, rsC]
  generalize hσ : AH.put σ0 σ.next _ = σ'
  obtain ⟨H, ybox, hy⟩ := steps_box H g2 hσ
  clear hσ
  have hce := H.h.ce
  have hbe := H.bd.e
  have hbr := H.bd.r
  have hll := H.sim.ll
  have hmd := H.h.p.p.made
  have hbx := H.bx
  have htk := H.tk
  have hmore : P.more ≤ 160 := by
    unfold PoolS.more
    split
    · exact hbr
    · rw [Nat.max_def]; split <;> omega
  have hge : ∀ e ∈ P.E, e.gen < 4398046511103 := fun e he => by
    obtain ⟨j, hj⟩ := List.getElem?_of_mem he
    have := H.bd.g _ _ _ _ (vw_mk hj); omega
  refine Ok.step (hadd_ok H.h ⟨by omega, by omega⟩ (x := o.w) (by omega) (by omega) hge) fun r ⟨i, g, P1, p1, came, M1, w1, dr, dw, p2, p3, d1, d2, d3, p4⟩ => ?_
  obtain ⟨q, σ1⟩ := r
  simp only at p1 p2 p4
  subst p1
  obtain ⟨D', e', t1, t2, t3, t4, t5⟩ := H.sim.add H.bd (by omega) H.h came H.st.d
  have hi := vw_len came.now
  have hl1 := came.len
  have hlD := t4.len
  have hb1 : σ1.blk wb = _ := (p4.blk wb (by simp)).trans hbx
  simp only [HS.vs] at hb1
  simp (config := { maxSteps := 2000000 }) -implicitDefEqProofs (disch := (first | omega | rfl | assumption | (simp only [rsD]; first | omega | assumption))) only [hr3, hb1, l3', Nat.reduceAdd, Nat.reduceMul, Nat.reduceLT, Int.reduceToNat, Int.reduceAdd, Int.reduceSub, Int.reduceMul, rsU, rsC]
  have hgk := t5.g _ _ _ _ came.now
  have hle := t5.e
  have doc := rhadd_ok (σ := σ1) H.st (by omega) (D' := D') (i := i) (g := g) (e := e') (x := o.w) t1 t2 t3 (by omega) (by omega) (by simp only at hlD; omega)
  simp only [HS.vs] at doc
  refine Ok.step doc fun r ⟨⟨v', g1, a', b', c', ee, hst⟩, E2⟩ => ?_
  obtain ⟨q, σ2⟩ := r
  simp only at g1 E2
  subst g1
  subst ee
  have hlt1 : ∀ q ∈ wb :: (SA.bk ai ++ [σ.next]), q < σ1.next := fun q hq => p2.p.mi.lt q (by simp only [List.mem_cons, hq, or_true])
  have hb2 : σ2.blk wb = _ := (E2.blk wb (hlt1 _ (by simp))).trans hb1
  have q0 : (tok i g == tok i g) = true := beq_self_eq_true _
  have q1 : ((0 : Int) == 0) = true := rfl
  simp (config := { maxSteps := 2000000 }) -implicitDefEqProofs (disch := (first | omega | rfl | assumption | (simp only [rsD]; first | omega | assumption))) only [HS.vs, hb2, q0, q1, eq_self, Nat.reduceAdd, Nat.reduceMul, Nat.reduceLT, Int.reduceToNat, Int.reduceAdd, Int.reduceSub, Int.reduceMul, rsU, rsC]
  generalize hσ : ((σ2.put wb _).bump 2).put σ2.next _ = σ3
  have n3 : σ3.next = σ2.next + 2 := by rw [← hσ]; rfl
  have hb3 : σ3.blk wb = some (.cells true T_haymowref18_State (HS.vs ⟨D', S.L ++ [(tok i g, o.w)]⟩ a' b' c')) := by
    have := hlt1 wb (by simp)
    have := E2.next
    rw [← hσ, s_bn (by omega)]; exact s_bs
  have o3 : ∀ q, q ≠ wb → q ≠ σ2.next → σ3.blk q = σ2.blk q := fun q h1 h2 => by rw [← hσ]; exact (s_bn h2).trans (s_bn h1)
  clear hσ
  have n2 := E2.next
  have n1 := p4.next
  have own3 : OwnS σ3 3 1 ai tl.length (tl.map (AV.i .i64)) := H.own.of (by omega) fun q hq => by
    have := hlt1 q (by simp [hq])
    rw [o3 q (H.na q hq).1 (by omega), E2.blk q this, p4.blk q (by simp [hq])]
  refine Ok.step (app_ok (nid := σ2.next + 1) own3 (fun hm => by have := hlt1 _ (List.mem_cons_of_mem _ (List.mem_append_left _ hm)); omega) (by omega) (show ([.i .i64 (tok i g)] : List AV).length = 1 * 1 from rfl)) fun q ⟨a2, m1, m2, m3, m4, m5⟩ => ?_
  obtain ⟨q, σ4⟩ := q
  simp only at m1 m2 m3 m4
  subst m1
  simp (config := { maxSteps := 2000000 }) -implicitDefEqProofs (disch := (first | omega | rfl | assumption | (simp only [rsD]; first | omega | assumption))) only [Nat.reduceAdd, Nat.reduceMul, Nat.reduceLT, Int.reduceToNat, Int.reduceAdd, Int.reduceSub, Int.reduceMul, rsU, rsC]
  have oa : ∀ q, q < σ1.next → q ≠ wb → q ∉ SA.bk ai → σ4.blk q = σ1.blk q := fun q h0 h1 h2 => by
    rw [m4 q (by omega) h2, o3 q h1 (by omega), E2.blk q h0]
  have chg : Chg (wb :: SA.bk ai) σ1 σ4 := ⟨by omega, fun q h0 hm => by
    simp only [List.mem_cons, not_or] at hm
    exact oa q h0 hm.1 hm.2⟩
  have h4 := p2.turn (Y := wb :: (SA.bk a2 ++ [σ.next])) chg (fun q hq => .inl (by
    simp only [List.mem_cons] at hq
    rcases hq with rfl | hq
    · simp
    · simp [hq])) fun q hq => by
    simp only [List.mem_cons, List.mem_append] at hq
    rcases hq with rfl | hq | hq
    · exact .inl (by simp)
    · have := m5 q hq; exact .inr (by omega)
    · simp at hq; exact .inl (by simp [hq])
  have hlen : tl.length + 1 = (tl ++ [tok i g]).length := by simp
  have hmap : tl.map (AV.i .i64) ++ [.i .i64 (tok i g)] = (tl ++ [tok i g]).map (AV.i .i64) := by simp
  rw [hmap, hlen] at m2
  rw [hlen]
  have r1 := p3.r
  have r2 := p3.w
  have hwi : wb ∉ SA.bk ai := fun hm => (H.na wb hm).1 rfl
  have H' : HpAt σ4 hb pb mb wb (k + 1) M1 ⟨D', S.L ++ [(tok i g, o.w)]⟩ P1 (C ++ [i]) w1 a' b' c' a2 (tl ++ [tok i g]) [σ.next] := by
    refine ⟨h4, t4, t5, hst, ?_, m2, fun q hq => ⟨?_, fun hm => ?_⟩, H.nw, fun t ht => ?_, by omega, p3.len.trans H.sp, came.id.trans H.id, by simp; omega⟩
    · rw [m4 wb (by have := hlt1 wb (by simp); omega) hwi]; exact hb3
    · have := m5 q hq; have := hlt1 wb (by simp); omega
    · have := m5 q hq; have := hlt1 q (by simp [hm]); omega
    · rcases List.mem_append.1 ht with ht | ht
      · exact H.tr t ht
      · simp at ht
        subst ht
        unfold r64 tok
        omega
  have ybox : σ4.blk σ.next = _ := (oa σ.next (hlt1 _ (by simp)) (fun e => H.nw (by simp [e])) (fun hm => (H.na _ hm).2 (by simp))).trans ((p4.blk σ.next (by simp)).trans ybox)
  have hlo : M.met.r + M.met.w ≤ M1.met.r + M1.met.w := by omega
  have hhi : M1.met.r + M1.met.w ≤ M.met.r + M.met.w + 16 := by omega
  clear r1 r2
  have hr' := H'.r
  obtain ⟨tb5, el5, rest5, hmb5, hmt5⟩ := H'.h.p.mi.meter
  have hok5 := H'.h.p.mi.ok
  simp (config := { maxSteps := 2000000 }) -implicitDefEqProofs (disch := (first | omega | rfl | assumption | (simp only [rsD]; first | omega | assumption))) only [hmb5, ybox, Nat.reduceAdd, Nat.reduceMul, Nat.reduceLT, Int.reduceToNat, Int.reduceAdd, Int.reduceSub, Int.reduceMul, rsU, rsC]
  refine Ok.step (since18 hmt5 hok5 (s := M.met.r + M.met.w) (by omega) (by omega) (by omega)) fun r ⟨z1, E5⟩ => ?_
  obtain ⟨q, σ5⟩ := r
  simp only at z1 E5
  subst z1
  simp (config := { maxSteps := 2000000 }) -implicitDefEqProofs (disch := (first | omega | rfl | assumption | (simp only [rsD]; first | omega | assumption))) only [Nat.reduceAdd, Nat.reduceMul, Nat.reduceLT, Int.reduceToNat, Int.reduceAdd, Int.reduceSub, Int.reduceMul, rsU, rsC]
  refine Ok.step (cmp18 (σ := σ5) (a := M1.met.r + M1.met.w - (M.met.r + M.met.w)) (b := 16) (by omega) (by omega) (by omega)) fun r ⟨⟨m, z2, z3⟩, E6⟩ => ?_
  obtain ⟨q, σ6⟩ := r
  simp only at z2 E6
  subst z2
  have t4 : decide (m > 0) = false := decide_eq_false (by omega)
  have H6 := H'.ext (E5.trans E6)
  obtain ⟨tb6, el6, rest6, hmb6, hmt6⟩ := H6.h.p.mi.meter
  have hhd := held_ok hmt6
  have hbx6 := H6.bx
  simp only [HS.vs] at hbx6
  have hh := H6.held
  have hroom := H6.sim.room
  have hbr6 := H6.bd.r
  have hprod : 4 * (⟨D', S.L ++ [(tok i g, o.w)]⟩ : HS).D.room = M1.met.held := by rw [hh, hroom]; push_cast; omega
  have hrr : (⟨D', S.L ++ [(tok i g, o.w)]⟩ : HS).D.room ≤ 160 ∧ 0 ≤ (⟨D', S.L ++ [(tok i g, o.w)]⟩ : HS).D.room := by rw [hroom]; omega
  have q2 : (M1.met.held == M1.met.held) = true := beq_self_eq_true _
  have ct := hcount_ok H6.h
  have hll6 := H6.sim.ll
  have q3 : (((C ++ [i]).length : Int) == (((⟨D', S.L ++ [(tok i g, o.w)]⟩ : HS).L.length : Nat) : Int)) = true := s_eqT (by omega)
  have bf : (false == false) = true := rfl
  simp (config := { maxSteps := 2000000 }) -implicitDefEqProofs (disch := (first | omega | rfl | assumption | (simp only [rsD]; first | omega | assumption))) only [t4, hmb6, hhd, hr3, hbx6, hprod, q2, ct, q3, bf, eq_self, Nat.reduceAdd, Nat.reduceMul, Nat.reduceLT, Int.reduceToNat, Int.reduceAdd, Int.reduceSub, Int.reduceMul, rsU, rsC]
  exact Ok_some.2 ⟨σ6, M1, (⟨D', S.L ++ [(tok i g, o.w)]⟩ : HS), P1, C ++ [i], w1, a', b', c', a2, tl ++ [tok i g], by simp, H6.less (by simp)⟩
theorem hplays_do (H : HpAt σ hb pb mb wb k M S P C w a b c ai tl []) (hk : k < 60) {so : SA} {N : Nat} (hkN : k < N) (hN : N ≤ 60) {o : HOp} {bb : Bid} {oo : Nat} (e : so = .loc bb oo 4) (l0 : ∀ σ : AH O, σ.ld bb (oo + k * 4) = some (.i .i64 o.kind)) (l1 : ∀ σ : AH O, σ.ld bb (oo + k * 4 + 1) = some (.i .i64 o.id)) (l2 : ∀ σ : AH O, σ.ld bb (oo + k * 4 + 1 + 1) = some (.b o.raw)) (l3 : ∀ σ : AH O, σ.ld bb (oo + k * 4 + 1 + 1 + 1) = some (.i .u64 o.w)) {r3 : AV × AH O} (hr3 : r3.2.next = wb) (h0 : o.kind ≠ 0) (hid : r64 o.id) :
    Ok (law18_HandlesPlay_L1 (so, N) (some (.n mb, 0)) meter_Meter__Steps handles_Handles__Add (some (.n hb, 0)) r3 haymowref18_Add law18_token law18_do meter_Meter__Since haymowref01_Cmp meter_Meter__Held handles_Handles__Count ([.sl ai tl.length, .i .i64 (k : Int)], σ)) fun r => ∃ σ' M' S' P' C' w' a' b' c' ai' tl', r = .inl ([.sl ai' tl'.length, .i .i64 ((k + 1 : Nat) : Int)], σ') ∧ HpAt σ' hb pb mb wb (k + 1) M' S' P' C' w' a' b' c' ai' tl' [] := by
  subst e
  have hr := H.r
  have hbx := H.bx
  simp only [HS.vs] at hbx
  have hwl := H.lX wb (by simp)
  obtain ⟨tb, el, rest, hmb, hmt⟩ := H.h.p.mi.meter
  have E0 : Ext σ (σ.bump 1) := (Ext.refl σ).bump 1
  simp (config := { maxSteps := 2000000 }) -implicitDefEqProofs (disch := (first | omega | rfl | assumption | (simp only [rsD]; first | omega | assumption))) only [law18_HandlesPlay_L1, hmb, Nat.reduceAdd, Nat.reduceMul, Nat.reduceLT, Int.reduceToNat, Int.reduceAdd, Int.reduceSub, Int.reduceMul, rsU, rsC]
  refine Ok.step (steps18 (hmt.of E0.next (E0.blk _ hmt.lt)) H.h.p.mi.ok (by omega)) fun r ⟨g1, g2⟩ => ?_
  obtain ⟨q, σ0⟩ := r
  simp only at g1 g2
  subst g1
  have hb0 : σ0.blk wb = _ := (g2.blk wb (by simp; omega)).trans hbx
  simp (config := { maxSteps := 2000000 }) -implicitDefEqProofs (disch := (first | omega | rfl | assumption | (simp only [rsD]; first | omega | assumption))) only [l0, s_eqF h0, hr3, hb0, l1, l2, l3, Nat.reduceAdd, Nat.reduceMul, Nat.reduceLT, Int.reduceToNat, Int.reduceAdd, Int.reduceSub, Int.reduceMul, rsU, rsC]
  generalize hσ : AH.put σ0 σ.next _ = σ'
  obtain ⟨H, ybox, hy⟩ := steps_box H g2 hσ
  clear hσ
  have hbx := H.bx
  simp only [HS.vs] at hbx
  have htk := H.tk
  refine Ok.step (token18_ok H.own.rd H.own.lt (by omega) H.tr (bb := o.raw) hid) fun r ⟨t, y1, y2, E1⟩ => ?_
  obtain ⟨q, σ1⟩ := r
  simp only at y1 E1
  subst y1
  have H1 := H.ext E1
  have ybox1 : σ1.blk σ.next = _ := (E1.blk _ hy).trans ybox
  have hbx1 := H1.bx
  simp only [HS.vs] at hbx1
  simp (config := { maxSteps := 2000000 }) -implicitDefEqProofs (disch := (first | omega | rfl | assumption | (simp only [rsD]; first | omega | assumption))) only [hr3, hbx1, l0, l1, l2, l3, Nat.reduceAdd, Nat.reduceMul, Nat.reduceLT, Int.reduceToNat, Int.reduceAdd, Int.reduceSub, Int.reduceMul, rsU, rsC]
  have hdo : Ok (law18_do [.p (some (.n hb, 0)), .agg (S.vs a b c), .agg [.i .i64 o.kind, .i .i64 o.id, .b o.raw, .i .u64 o.w], .i .i64 t] σ1) (HDid σ1 hb pb mb M P (wb :: (SA.bk ai ++ [σ.next])) k) := by
    by_cases c1 : o.kind = 1
    · rw [c1]; exact do18_drop H1.h H1.sim H1.bd (by omega) H1.st (by omega) y2
    by_cases c2 : o.kind = 2
    · rw [c2]; exact do18_get H1.h H1.sim H1.bd (by omega) H1.st (by omega) y2
    by_cases c3 : o.kind = 3
    · rw [c3]; exact do18_set H1.h H1.sim H1.bd (by omega) H1.st (by omega) y2
    exact do18_turn H1.h H1.sim H1.bd (by omega) H1.st (by omega) ⟨c1, c2, c3⟩
  simp only [HS.vs] at hdo
  refine Ok.step hdo fun r ⟨⟨S', a', b', c', P1, C1, M1, w1, most, p1, p2, p3, p4, p5, p6, p7, p8, p9, p10⟩, kp⟩ => ?_
  obtain ⟨q, σ2⟩ := r
  simp only at p1 p5 kp
  subst p1
  have hb2 : σ2.blk wb = _ := (kp.blk wb (by simp)).trans hbx1
  have ybox2 : σ2.blk σ.next = _ := (kp.blk σ.next (by simp)).trans ybox1
  simp (config := { maxSteps := 2000000 }) -implicitDefEqProofs (disch := (first | omega | rfl | assumption | (simp only [rsD]; first | omega | assumption))) only [HS.vs, hb2, ybox2, Nat.reduceAdd, Nat.reduceMul, Nat.reduceLT, Int.reduceToNat, Int.reduceAdd, Int.reduceSub, Int.reduceMul, rsU, rsC]
  generalize hσ : σ2.put wb _ = σ4
  have n4 : σ4.next = σ2.next := by rw [← hσ]; rfl
  have hb4 : σ4.blk wb = some (.cells true T_haymowref18_State (S'.vs a' b' c')) := by rw [← hσ]; exact s_bs
  have o4 : ∀ q, q ≠ wb → σ4.blk q = σ2.blk q := fun q h1 => by rw [← hσ]; exact s_bn h1
  clear hσ
  have n2 := kp.next
  have h4 : HanAt σ4 hb pb mb M1 P1 C1 w1 (wb :: (SA.bk ai ++ [σ.next])) := p5.turn (L := [wb]) ⟨by omega, fun q hq hm => o4 q (by simpa using hm)⟩ (fun q hq => .inl (by simp at hq; simp [hq])) fun q hq => .inl hq
  have H' : HpAt σ4 hb pb mb wb (k + 1) M1 S' P1 C1 w1 a' b' c' ai tl [σ.next] := ⟨h4, p3, p4, p2, hb4, H1.own.of (by omega) (fun q hq => by rw [o4 q (H.na q hq).1, kp.blk q (by simp [hq])]), H.na, H.nw, H.tr, by have := h4.p.mi.ok.met.r; have := h4.p.mi.ok.met.w; omega, p9.trans H.sp, p10.trans H.id, by omega⟩
  have hne : σ.next ≠ wb := fun e => H.nw (by simp [e])
  have ybox : σ4.blk σ.next = _ := (o4 _ hne).trans ybox2
  have hr' := H'.r
  obtain ⟨tb5, el5, rest5, hmb5, hmt5⟩ := H'.h.p.mi.meter
  have hok5 := H'.h.p.mi.ok
  simp (config := { maxSteps := 2000000 }) -implicitDefEqProofs (disch := (first | omega | rfl | assumption | (simp only [rsD]; first | omega | assumption))) only [hmb5, ybox, Nat.reduceAdd, Nat.reduceMul, Nat.reduceLT, Int.reduceToNat, Int.reduceAdd, Int.reduceSub, Int.reduceMul, rsU, rsC]
  refine Ok.step (since18 hmt5 hok5 (s := M.met.r + M.met.w) (by omega) (by omega) (by omega)) fun r ⟨z1, E5⟩ => ?_
  obtain ⟨q, σ5⟩ := r
  simp only at z1 E5
  subst z1
  simp (config := { maxSteps := 2000000 }) -implicitDefEqProofs (disch := (first | omega | rfl | assumption | (simp only [rsD]; first | omega | assumption))) only [Nat.reduceAdd, Nat.reduceMul, Nat.reduceLT, Int.reduceToNat, Int.reduceAdd, Int.reduceSub, Int.reduceMul, rsU, rsC]
  refine Ok.step (cmp18 (σ := σ5) (a := M1.met.r + M1.met.w - (M.met.r + M.met.w)) (b := most) (by omega) (by omega) (by omega)) fun r ⟨⟨m, z2, z3⟩, E6⟩ => ?_
  obtain ⟨q, σ6⟩ := r
  simp only at z2 E6
  subst z2
  have t4 : decide (m > 0) = false := decide_eq_false (by omega)
  have H6 := H'.ext (E5.trans E6)
  obtain ⟨tb6, el6, rest6, hmb6, hmt6⟩ := H6.h.p.mi.meter
  have hhd := held_ok hmt6
  have hbx6 := H6.bx
  simp only [HS.vs] at hbx6
  have hh := H6.held
  have hroom := H6.sim.room
  have hbr6 := H6.bd.r
  have hprod : 4 * (S').D.room = M1.met.held := by rw [hh, hroom]; push_cast; omega
  have hrr : (S').D.room ≤ 160 ∧ 0 ≤ (S').D.room := by rw [hroom]; omega
  have q2 : (M1.met.held == M1.met.held) = true := beq_self_eq_true _
  have ct := hcount_ok H6.h
  have hll6 := H6.sim.ll
  have q3 : (((C1).length : Int) == (((S').L.length : Nat) : Int)) = true := s_eqT (by omega)
  have bf : (false == false) = true := rfl
  simp (config := { maxSteps := 2000000 }) -implicitDefEqProofs (disch := (first | omega | rfl | assumption | (simp only [rsD]; first | omega | assumption))) only [t4, hmb6, hhd, hr3, hbx6, hprod, q2, ct, q3, bf, eq_self, Nat.reduceAdd, Nat.reduceMul, Nat.reduceLT, Int.reduceToNat, Int.reduceAdd, Int.reduceSub, Int.reduceMul, rsU, rsC]
  exact Ok_some.2 ⟨σ6, M1, S', P1, C1, w1, a', b', c', ai, tl, by simp, H6.less (by simp)⟩
end
end Go.Abs.Try
set_option linter.unusedSimpArgs false
set_option linter.unusedVariables false
set_option linter.unusedSectionVars false
set_option maxHeartbeats 2000000
namespace Go.Abs.Try
open Go Go.Abs
variable {O : Type}

theorem same02_ok {σ : AH O} {a b : SA} {l : List Int} (ha : Rd σ 1 a l.length (l.map (AV.i .i64))) (hb : Rd σ 1 b l.length (l.map (AV.i .i64))) (hl : l.length ≤ 100000) : Ok (haymowref02_Same [.sl a l.length, .sl b l.length] σ) fun r => r = (.b true, σ) := by
  have q0 : ((l.length : Int) == (l.length : Int)) = true := by simp
  simp (config := { maxSteps := 2000000 }) -implicitDefEqProofs (disch := (first | omega | rfl | assumption | (simp only [rsD]; first | omega | assumption))) only [haymowref02_Same, haymowref02_Same_c, q0, Nat.reduceAdd, Nat.reduceMul, Nat.reduceLT, Int.reduceToNat, Int.reduceAdd, Int.reduceSub, Int.reduceMul, rsU, rsC]
  refine Ok.bindS (Q := fun r => r = .inl ([], σ)) ?_ ?_ (fun r h => by cases h)
  · refine Ok.count l.length (fun k s => s = ([.i .i64 (k : Int)], σ)) ?_ ?_ rfl
    · rintro k s hk rfl
      have hx : (l.map (AV.i .i64))[k]? = some (.i .i64 l[k]) := by simp [hk]
      generalize l[k] = x at hx
      obtain ⟨b1, o1, e1, l1⟩ := ha.at1 hx
      obtain ⟨b2, o2, e2, l2⟩ := hb.at1 hx
      have r1 : SA.ref a = some (b1, o1) := by rw [e1]; rfl
      have r2 : SA.ref b = some (b2, o2) := by rw [e2]; rfl
      have q1 : (x == x) = true := beq_self_eq_true x
      rw [Nat.mul_one] at l1 l2
      simp (config := { maxSteps := 2000000 }) -implicitDefEqProofs (disch := (first | omega | rfl | assumption | (simp only [rsD]; first | omega | assumption))) only [haymowref02_Same_L1, r1, r2, l1, l2, q1, Nat.mul_one, Nat.reduceAdd, Nat.reduceMul, Nat.reduceLT, Int.reduceToNat, Int.reduceAdd, Int.reduceSub, Int.reduceMul, rsU, rsC]
      exact Ok_some.2 (by simp)
    · rintro s rfl
      simp (config := { maxSteps := 2000000 }) -implicitDefEqProofs (disch := (first | omega | rfl | assumption | (simp only [rsD]; first | omega | assumption))) only [haymowref02_Same_L1, Nat.reduceAdd, Nat.reduceMul, Nat.reduceLT, Int.reduceToNat, Int.reduceAdd, Int.reduceSub, Int.reduceMul, rsU, rsC]
      exact Ok_some.2 rfl
  · rintro _ h
    cases h
    exact Ok_some.2 rfl
section
variable {σ : AH O} {hb pb mb wb k : Nat} {M : MemS} {S : HS} {P : PoolS} {C : List Nat} {w : List Int} {a b c ai : SA} {tl : List Int}
/-- what each holds is read -/
theorem hplays_read (H : HpAt σ hb pb mb wb k M S P C w a b c ai tl []) (hk : k ≤ 60) {r3 : AV × AH O} (hr3 : r3.2.next = wb) :
    Ok (loopF (S := List AV × AH O) (T := (List AV × AH O) ⊕ (AV × AH O)) (law18_HandlesPlay_L2 r3 handles_Handles__Get (some (.n hb, 0))) ([.sl .nil 0, .i .i64 0], σ)) fun r => ∃ σ' M' d, r = .inl ([.sl d S.L.length], σ') ∧ HanAt σ' hb pb mb M' P C w (wb :: SA.bk d) ∧ OwnS σ' 3 1 d S.L.length ((S.L.map (·.1)).map (AV.i .i64)) ∧ M'.met.r ≤ 600 * k + 4 * S.L.length ∧ M'.met.w ≤ 600 * k ∧ σ'.blk wb = σ.blk wb ∧ wb ∉ SA.bk d := by
  have hr := H.r
  have hbx := H.bx
  simp only [HS.vs] at hbx
  have hll := H.sim.ll
  have hce := H.h.ce
  have hbe := H.bd.e
  refine Ok.count S.L.length (fun j s => ∃ σ' M' d, s = ([.sl d j, .i .i64 (j : Int)], σ') ∧ HanAt σ' hb pb mb M' P C w (wb :: SA.bk d) ∧ OwnS σ' 3 1 d j (((S.L.take j).map (·.1)).map (AV.i .i64)) ∧ M'.met.r ≤ 600 * k + 4 * j ∧ M'.met.w ≤ 600 * k ∧ σ'.blk wb = σ.blk wb ∧ wb ∉ SA.bk d) ?_ ?_ ⟨σ, M, .nil, rfl, H.h.mono (by simp [SA.bk]), OwnS.nil _ _ _, by omega, by omega, rfl, by simp [SA.bk]⟩
  · rintro j s hj ⟨σ1, M1, d, rfl, h1, own1, r1, w1, bx1, nd⟩
    have hx := List.getElem?_eq_getElem hj
    have hjC : j < C.length := by omega
    have hc := List.getElem?_eq_getElem hjC
    obtain ⟨g, x, k1, k2⟩ := H.sim.at_ j _ hc
    generalize C[j] = i at hc k1 k2
    have hS : S.L.take (j + 1) = S.L.take j ++ [(tok i g, x)] := take_snoc k1
    obtain ⟨qb, qo, rfl, hld⟩ := Imm.row hcell_len H.st.l k1 (by decide)
    have ld0 : ∀ σ : AH O, σ.ld qb (qo + j * 2) = some (.i .i64 (tok i g)) := fun σ => hld O σ 0 (by decide)
    have ld1 : ∀ σ : AH O, σ.ld qb (qo + j * 2 + 1) = some (.i .u64 x) := fun σ => hld O σ 1 (by decide)
    have hb1 : σ1.blk wb = _ := bx1.trans hbx
    simp (config := { maxSteps := 2000000 }) -implicitDefEqProofs (disch := (first | omega | rfl | assumption | (simp only [rsD]; first | omega | assumption))) only [law18_HandlesPlay_L2, hr3, hb1, ld0, Nat.reduceAdd, Nat.reduceMul, Nat.reduceLT, Int.reduceToNat, Int.reduceAdd, Int.reduceSub, Int.reduceMul, rsU, rsC]
    refine Ok.step (hget_ok h1 ⟨by omega, by omega⟩ k2) fun r ⟨g1, M2, g2, g3, g4⟩ => ?_
    obtain ⟨q, σ2⟩ := r
    simp only at g1 g2 g4
    subst g1
    have hb2 : σ2.blk wb = _ := (g4.blk wb (by simp)).trans hb1
    have q0 : (x == x) = true := beq_self_eq_true x
    have q1 : ((0 : Int) == 0) = true := rfl
    have q2 : (false == false) = true := rfl
    simp (config := { maxSteps := 2000000 }) -implicitDefEqProofs (disch := (first | omega | rfl | assumption | (simp only [rsD]; first | omega | assumption))) only [hr3, hb2, ld0, ld1, q0, q1, q2, eq_self, Nat.reduceAdd, Nat.reduceMul, Nat.reduceLT, Int.reduceToNat, Int.reduceAdd, Int.reduceSub, Int.reduceMul, rsU, rsC]
    have n2 := g4.next
    have own2 := own1.of g4.next fun q hq => g4.blk q (by simp [hq])
    generalize hσ : (σ2.bump 2).put σ2.next _ = σ3
    have n3 : σ3.next = σ2.next + 2 := by rw [← hσ]; rfl
    have o3 : ∀ q, q ≠ σ2.next → σ3.blk q = σ2.blk q := fun q h1 => by rw [← hσ]; exact s_bn h1
    clear hσ
    have own3 := own2.of (σ' := σ3) (by omega) fun q hq => o3 q (by have := own2.lt q hq; omega)
    refine Ok.step (app_ok (nid := σ2.next + 1) own3 (fun hm => by have := own2.lt _ hm; omega) (by omega) (show ([.i .i64 (tok i g)] : List AV).length = 1 * 1 from rfl)) fun q ⟨a2, m1, m2, m3, m4, m5⟩ => ?_
    obtain ⟨q, σ4⟩ := q
    simp only at m1 m2 m3 m4
    subst m1
    simp (config := { maxSteps := 2000000 }) -implicitDefEqProofs (disch := (first | omega | rfl | assumption | (simp only [rsD]; first | omega | assumption))) only [Nat.reduceAdd, Nat.reduceMul, Nat.reduceLT, Int.reduceToNat, Int.reduceAdd, Int.reduceSub, Int.reduceMul, rsU, rsC]
    have hwl : wb < σ2.next := g2.p.mi.lt wb (by simp)
    have chg : Chg (SA.bk d) σ2 σ4 := ⟨by omega, fun q h0 hm => by rw [m4 q (by omega) hm, o3 q (by omega)]⟩
    have h4 := g2.turn (Y := wb :: SA.bk a2) chg (fun q hq => .inl (by simp [hq])) fun q hq => by
      simp only [List.mem_cons] at hq
      rcases hq with rfl | hq
      · exact .inl (by simp)
      · have := m5 q hq; exact .inr (by omega)
    have r3 := g3.r
    have w3 := g3.w
    refine Ok_some.2 ⟨σ4, M2, a2, by simp, h4, ?_, by omega, by omega, ?_, fun hm => ?_⟩
    · rw [hS]
      simp only [List.map_append, List.map_cons, List.map_nil]
      exact m2
    · rw [m4 wb (by omega) nd, o3 wb (by omega)]; exact (g4.blk wb (by simp)).trans bx1
    · have := m5 wb hm; omega
  · rintro s ⟨σ1, M1, d, rfl, h1, own1, r1, w1, bx1, nd⟩
    have hb1 : σ1.blk wb = _ := bx1.trans hbx
    simp (config := { maxSteps := 2000000 }) -implicitDefEqProofs (disch := (first | omega | rfl | assumption | (simp only [rsD]; first | omega | assumption))) only [law18_HandlesPlay_L2, hr3, hb1, Nat.reduceAdd, Nat.reduceMul, Nat.reduceLT, Int.reduceToNat, Int.reduceAdd, Int.reduceSub, Int.reduceMul, rsU, rsC]
    rw [List.take_length] at own1
    exact Ok_some.2 ⟨σ1, M1, d, rfl, h1, own1, r1, w1, bx1, nd⟩
end
structure HOp.rng (o : HOp) : Prop where
  id : r64 o.id
theorem handlesPlay_ok {σ : AH O} {so : SA} {ops : List HOp} (hj : Imm 4 so ops.length (ops.flatMap HOp.cells)) (hr : ∀ o ∈ ops, o.rng) : Ok (law18_HandlesPlay [.sl so ops.length] σ) fun r => r.1 = .b true := by
  simp (config := { maxSteps := 2000000 }) -implicitDefEqProofs (disch := (first | omega | rfl | assumption | (simp only [rsD]; first | omega | assumption))) only [law18_HandlesPlay, law18_HandlesPlay_c, Nat.reduceAdd, Nat.reduceMul, Nat.reduceLT, Int.reduceToNat, Int.reduceAdd, Int.reduceSub, Int.reduceMul, rsU, rsC]
  refine Ok.step awake18_ok fun r g1 => ?_
  obtain ⟨q, σ1⟩ := r
  simp only at g1
  subst g1
  by_cases hbig : (ops.length : Int) > 60
  · simp (config := { maxSteps := 2000000 }) -implicitDefEqProofs (disch := (first | omega | rfl | assumption | (simp only [rsD]; first | omega | assumption))) only [Nat.reduceAdd, Nat.reduceMul, Nat.reduceLT, Int.reduceToNat, Int.reduceAdd, Int.reduceSub, Int.reduceMul, rsU, rsC]
    exact Ok_some.2 rfl
  simp (config := { maxSteps := 2000000 }) -implicitDefEqProofs (disch := (first | omega | rfl | assumption | (simp only [rsD]; first | omega | assumption))) only [Nat.reduceAdd, Nat.reduceMul, Nat.reduceLT, Int.reduceToNat, Int.reduceAdd, Int.reduceSub, Int.reduceMul, rsU, rsC]
  refine Ok.step made18_ok fun r ⟨mb, hb, pb, M, id, g1, g2, g3, g4, g5, g6⟩ => ?_
  obtain ⟨q, σ2⟩ := r
  simp only at g1 g2
  subst g1
  subst g5
  simp (config := { maxSteps := 2000000 }) -implicitDefEqProofs (disch := (first | omega | rfl | assumption | (simp only [rsD]; first | omega | assumption))) only [haymowref18_New, haymowref18_New_c, Nat.reduceAdd, Nat.reduceMul, Nat.reduceLT, Int.reduceToNat, Int.reduceAdd, Int.reduceSub, Int.reduceMul, rsU, rsC]
  generalize hσ : AH.put _ σ2.next _ = σ3
  have E : Ext σ2 σ3 := by rw [← hσ]; exact (ext_of (by simp only [put_next, bump_next, kill_next]; omega) (fun b hb => by simp -implicitDefEqProofs (disch := (first | omega | rfl | assumption | (simp only [rsD]; first | omega | assumption))) only [s_bn, s_kn, bump_blk, s_ext]))
  have n3 : σ2.next < σ3.next := by rw [← hσ]; simp; omega
  have b3 : σ3.blk σ2.next = some (.cells true T_haymowref18_State [.i .i64 3, .sl .nil 0, .sl .nil 0, .i .i64 0, .sl .nil 0]) := by rw [← hσ]; exact s_bs
  clear hσ
  have start : HpAt σ3 hb pb mb σ2.next 0 M ⟨⟨3, [], [], 0⟩, []⟩ ⟨0, 3, 0, [], [], 0⟩ [] [] .nil .nil .nil .nil [] [] := by
    refine ⟨g2.turn (L := []) E.chg (by simp) fun q hq => ?_, ⟨rfl, rfl, rfl, fun i d hd => by simp at hd, rfl, rfl, fun k i hk => by simp at hk⟩, ⟨Nat.le_refl _, Nat.le_refl _, fun i t g x hv => by simp [vw] at hv, Nat.zero_le _⟩, ⟨⟨_, _, rfl, .sl (Imm.nil 3) .nil, .sl (Imm.nil 1) .nil⟩, Imm.nil 2⟩, b3, OwnS.nil _ _ _, by simp [SA.bk], by simp, by simp, by omega, g6, rfl, Nat.le_refl _⟩
    simp [SA.bk] at hq; subst hq; right; omega
  refine Ok.bindS (Q := fun r => ∃ σ' M S P C w a b c ai tl k, r = .inl ([], σ') ∧ HpAt σ' hb pb mb σ2.next k M S P C w a b c ai tl [] ∧ k ≤ 60) ?_ ?_ (fun r h => by obtain ⟨_, _, _, _, _, _, _, _, _, _, _, _, e, _⟩ := h; cases e)
  · refine Ok.count ops.length (fun k s => ∃ σ' M S P C w a b c ai tl, s = ([.sl ai tl.length, .i .i64 (k : Int)], σ') ∧ HpAt σ' hb pb mb σ2.next k M S P C w a b c ai tl []) ?_ ?_ ⟨σ3, M, _, _, _, _, _, _, _, _, _, rfl, start⟩
    · rintro k s hk ⟨σ', M, S, P, C, w, a, b, c, ai, tl, rfl, h⟩
      have hx := List.getElem?_eq_getElem hk
      have hxr := hr _ (List.mem_of_getElem? hx)
      generalize ops[k] = x at hx hxr
      obtain ⟨bb, o, e, hld⟩ := Imm.row HOp.len hj hx (by omega)
      by_cases c0 : x.kind = 0
      · refine (hplays_add h (by omega) (N := ops.length) hk (by omega) e (fun σ => hld O σ 0 (by omega)) (fun σ => hld O σ 1 (by omega)) (fun σ => hld O σ 2 (by omega)) (fun σ => hld O σ 3 (by omega)) (r3 := _) rfl c0).mono ?_
        rintro _ ⟨σ', M', S', P', C', w', a', b', c', ai', tl', rfl, h'⟩
        exact ⟨σ', M', S', P', C', w', a', b', c', ai', tl', rfl, h'⟩
      · refine (hplays_do h (by omega) (N := ops.length) hk (by omega) e (fun σ => hld O σ 0 (by omega)) (fun σ => hld O σ 1 (by omega)) (fun σ => hld O σ 2 (by omega)) (fun σ => hld O σ 3 (by omega)) (r3 := _) rfl c0 hxr.id).mono ?_
        rintro _ ⟨σ', M', S', P', C', w', a', b', c', ai', tl', rfl, h'⟩
        exact ⟨σ', M', S', P', C', w', a', b', c', ai', tl', rfl, h'⟩
    · rintro s ⟨σ', M, S, P, C, w, a, b, c, ai, tl, rfl, h⟩
      simp (config := { maxSteps := 2000000 }) -implicitDefEqProofs (disch := (first | omega | rfl | assumption | (simp only [rsD]; first | omega | assumption))) only [law18_HandlesPlay_L1, Nat.reduceAdd, Nat.reduceMul, Nat.reduceLT, Int.reduceToNat, Int.reduceAdd, Int.reduceSub, Int.reduceMul, rsU, rsC]
      exact Ok_some.2 ⟨σ', M, S, P, C, w, a, b, c, ai, tl, _, rfl, h, by omega⟩
  rintro _ ⟨σ', M, S, P, C, w, a, b, c, ai, tl, k, e, h, hk⟩
  cases e
  simp (config := { maxSteps := 2000000 }) -implicitDefEqProofs (disch := (first | omega | rfl | assumption | (simp only [rsD]; first | omega | assumption))) only [Nat.reduceAdd, Nat.reduceMul, Nat.reduceLT, Int.reduceToNat, Int.reduceAdd, Int.reduceSub, Int.reduceMul, rsU, rsC]
  refine Ok.bindS (hplays_read h hk (r3 := _) rfl) ?_ (fun r hh => by obtain ⟨_, _, _, e, _⟩ := hh; cases e)
  rintro _ ⟨σ4, M4, d, e, h4, own4, r4, w4, bx4, nd⟩
  cases e
  simp (config := { maxSteps := 2000000 }) -implicitDefEqProofs (disch := (first | omega | rfl | assumption | (simp only [rsD]; first | omega | assumption))) only [Nat.reduceAdd, Nat.reduceMul, Nat.reduceLT, Int.reduceToNat, Int.reduceAdd, Int.reduceSub, Int.reduceMul, rsU, rsC]
  have hce := h4.ce
  have hbe := h.bd.e
  have hll := h.sim.ll
  obtain ⟨V, hVl, hV, hVS⟩ := h.sim.vals
  refine Ok.step (told18_ok h4 ⟨by omega, by omega⟩ (by omega) (G := V.map (·.1)) (by simp [hVl]) fun j i hj => ?_) fun r ⟨a5, M5, g7, h5, own5, k5⟩ => ?_
  · obtain ⟨g, x, k1, k2⟩ := hV j i hj
    exact ⟨g, some x, by rw [List.getElem?_map, k1]; rfl, k2⟩
  obtain ⟨q, σ5⟩ := r
  simp only at g7 h5 own5 k5
  subst g7
  have et : toks C (V.map (·.1)) = S.L.map (·.1) := by
    apply List.ext_getElem?
    intro j
    unfold toks
    rw [List.getElem?_zipWith, List.getElem?_map]
    cases hc : C[j]? with
    | none =>
      have := List.getElem?_eq_none_iff.1 hc
      rw [List.getElem?_eq_none (l := S.L.map (·.1)) (by simp; omega)]
    | some i =>
      obtain ⟨g, x, k1, k2⟩ := hV j i hc
      obtain ⟨g', x', u1, u2⟩ := h.sim.at_ j i hc
      rw [k2] at u2
      simp only [Option.some.injEq, Prod.mk.injEq, true_and] at u2
      rw [List.getElem?_map, k1, u1]
      simp [u2.1]
  rw [et] at own5
  have own4' := own4.of k5.next fun q hq => k5.blk q (by simp [hq])
  have hlm : (S.L.map (·.1)).length = S.L.length := by simp
  have hCl : C.length = S.L.length := by omega
  rw [hCl] at own5 ⊢
  have sm := same02_ok (σ := σ5) (a := a5) (b := d) (l := S.L.map (·.1)) (by rw [hlm]; exact own5.rd) (by rw [hlm]; exact own4'.rd) (by omega)
  rw [hlm] at sm
  have b0 : (true == true) = true := rfl
  simp (config := { maxSteps := 2000000 }) -implicitDefEqProofs (disch := (first | omega | rfl | assumption | (simp only [rsD]; first | omega | assumption))) only [b0, Nat.reduceAdd, Nat.reduceMul, Nat.reduceLT, Int.reduceToNat, Int.reduceAdd, Int.reduceSub, Int.reduceMul, rsU, rsC]
  refine Ok.step sm fun r e => ?_
  subst e
  simp (config := { maxSteps := 2000000 }) -implicitDefEqProofs (disch := (first | omega | rfl | assumption | (simp only [rsD]; first | omega | assumption))) only [Nat.reduceAdd, Nat.reduceMul, Nat.reduceLT, Int.reduceToNat, Int.reduceAdd, Int.reduceSub, Int.reduceMul, rsU, rsC]
  exact Ok_some.2 rfl
theorem hopsOf {sa : SA} {els : List (List AV)} (hrow : ∀ el ∈ els, el.length = 4 ∧ ∀ (i : Nat) (k : Option IntKind) (v : AV), ([some .i64, some .i64, none, some .u64] : List (Option IntKind))[i]? = some k → el[i]? = some v → FldIs k v)
    (himm : Imm 4 sa els.length els.flatten) : ∃ ops : List HOp, els.length = ops.length ∧ Imm 4 sa ops.length (ops.flatMap HOp.cells) ∧ ∀ o ∈ ops, o.rng := by
  have : ∃ ops : List HOp, els = ops.map HOp.cells ∧ ∀ o ∈ ops, o.rng := by
    clear himm
    induction els with
    | nil => exact ⟨[], rfl, by simp⟩
    | cons el els ih =>
      obtain ⟨ops, e, hr⟩ := ih fun x hx => hrow x (List.mem_cons_of_mem _ hx)
      obtain ⟨hl, hn⟩ := hrow el List.mem_cons_self
      match el, hl with
      | [a, b, c, d], _ =>
        obtain ⟨a, rfl, _⟩ := hn 0 _ _ rfl rfl
        obtain ⟨b, rfl, hb⟩ := hn 1 _ _ rfl rfl
        obtain ⟨c, rfl⟩ := hn 2 _ _ rfl rfl
        obtain ⟨d, rfl, _⟩ := hn 3 _ _ rfl rfl
        refine ⟨⟨a, b, c, d⟩ :: ops, by rw [e]; rfl, fun o ho => ?_⟩
        rcases List.mem_cons.1 ho with rfl | ho
        · exact ⟨hb⟩
        · exact hr o ho
  obtain ⟨ops, rfl, hr⟩ := this
  exact ⟨ops, by simp, by simpa [List.flatMap_def] using himm, hr⟩
end Go.Abs.Try
