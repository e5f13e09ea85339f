/-
  Layer 9 over layer 10: entries of a pool that are linked. The plain law. No conditions.
-/
import Derived.Test.YtgmffmgbaelohaaM10d
set_option linter.unusedVariables false
set_option linter.unusedSimpArgs false
set_option linter.constructorNameAsVariable false
set_option linter.unusedSimpArgs false
set_option linter.unusedVariables false
set_option linter.unusedSectionVars false
set_option maxHeartbeats 1000000
namespace Go.Abs.Try
open Go Go.Abs
variable {O : Type}

/-- the number behind, and ahead of, the j-th one of a list; 0: none -/
def nid (C : List Nat) (j : Nat) : Nat := match C[j + 1]? with | some i => i + 1 | none => 0
def pid (C : List Nat) (j : Nat) : Nat := match j with | 0 => 0 | j + 1 => (match C[j]? with | some i => i + 1 | none => 0)
def hdI (C : List Nat) : Nat := match C with | [] => 0 | i :: _ => i + 1
def tlI (C : List Nat) : Nat := match C.getLast? with | none => 0 | some i => i + 1
structure LinkE (e : PE) (nx pv : Nat) (n p : Nat) : Prop where
  tk : e.tk = true
  n : e.ws[nx]? = some (n : Int)
  p : e.ws[pv]? = some (p : Int)
/-- these entries are linked by two of their words -/
structure Linked (E : List PE) (nx pv : Nat) (C : List Nat) : Prop where
  nd : C.Nodup
  at_ : ∀ j i, C[j]? = some i → ∃ e, E[i]? = some e ∧ LinkE e nx pv (nid C j) (pid C j)
theorem Linked.nil (E : List PE) (nx pv : Nat) : Linked E nx pv [] := ⟨by simp, fun j i h => by simp at h⟩
theorem nid_lt {C : List Nat} {j : Nat} (h : nid C j ≠ 0) : j + 1 < C.length := by
  unfold nid at h
  split at h
  · rename_i i hi; exact (List.getElem?_eq_some_iff.1 hi).1
  · exact absurd rfl h
theorem nid_some {C : List Nat} {j i : Nat} (h : C[j + 1]? = some i) : nid C j = i + 1 := by unfold nid; rw [h]
theorem nid_none {C : List Nat} {j : Nat} (h : C.length ≤ j + 1) : nid C j = 0 := by unfold nid; rw [List.getElem?_eq_none h]
theorem pid_some {C : List Nat} {j i : Nat} (h : C[j]? = some i) : pid C (j + 1) = i + 1 := by unfold pid; simp only [h]
theorem tl_snoc (C : List Nat) (i : Nat) : tlI (C ++ [i]) = i + 1 := by simp [tlI]
theorem tl_pid {C : List Nat} : tlI C = pid C C.length := by
  cases h : C.length with
  | zero => have : C = [] := List.eq_nil_of_length_eq_zero h; subst this; rfl
  | succ n =>
    unfold tlI pid
    rw [List.getLast?_eq_getElem?, h, Nat.add_sub_cancel]
    have : n < C.length := by omega
    simp only [List.getElem?_eq_getElem this]
theorem nodup_at {C : List Nat} (h : C.Nodup) {j k i : Nat} (hj : C[j]? = some i) (hk : C[k]? = some i) : j = k := by
  exact (List.getElem?_inj (List.getElem?_eq_some_iff.1 hj).1 h).1 (hj.trans hk.symm)
/-- what does not lie in the list may change -/
theorem Linked.other {E E' : List PE} {nx pv : Nat} {C : List Nat} (h : Linked E nx pv C) (he : ∀ i ∈ C, E'[i]? = E[i]?) : Linked E' nx pv C :=
  ⟨h.nd, fun j i hj => by rw [he i (List.mem_of_getElem? hj)]; exact h.at_ j i hj⟩
/-- words that are no links may change -/
theorem Linked.words {E : List PE} {nx pv : Nat} {C : List Nat} (h : Linked E nx pv C) {i k : Nat} {e : PE} {x : Int} (he : E[i]? = some e) (h1 : k ≠ nx) (h2 : k ≠ pv) : Linked (E.set i { e with ws := e.ws.set k x }) nx pv C := by
  have hi := (List.getElem?_eq_some_iff.1 he).1
  refine ⟨h.nd, fun j i' hj => ?_⟩
  obtain ⟨y, g1, g2⟩ := h.at_ j i' hj
  rw [List.getElem?_set]
  by_cases c : i = i'
  · subst c
    rw [he] at g1; cases g1
    exact ⟨{ e with ws := e.ws.set k x }, by rw [if_pos rfl, if_pos hi], ⟨g2.tk, by rw [List.getElem?_set, if_neg h1]; exact g2.n, by rw [List.getElem?_set, if_neg h2]; exact g2.p⟩⟩
  · rw [if_neg c]; exact ⟨y, g1, g2⟩
/-- one more, the last one: first its own links, then the link of the one that was last -/
theorem Linked.push {E E1 E2 : List PE} {nx pv : Nat} {C : List Nat} (h : Linked E nx pv C) {i : Nat} (hi : i ∉ C) {e : PE} (hne : nx ≠ pv) (he : E1[i]? = some e) (hl : LinkE e nx pv 0 (tlI C)) (h1 : ∀ j, j ≠ i → E1[j]? = E[j]?)
    (h2 : ∀ j, C.getLast? ≠ some j → E2[j]? = E1[j]?) (h3 : ∀ t x, C.getLast? = some t → E1[t]? = some x → E2[t]? = some { x with ws := x.ws.set nx ((i : Int) + 1) }) : Linked E2 nx pv (C ++ [i]) := by
  have hnd : (C ++ [i]).Nodup := by
    rw [List.nodup_append]
    exact ⟨h.nd, by simp, fun a ha b hb e => by simp at hb; subst hb; subst e; exact hi ha⟩
  refine ⟨hnd, fun j k hj => ?_⟩
  rcases Nat.lt_or_ge j C.length with g | g
  · rw [List.getElem?_append_left g] at hj
    obtain ⟨y, k1, k2⟩ := h.at_ j k hj
    have hki : k ≠ i := fun e => hi (e ▸ List.mem_of_getElem? hj)
    rw [← h1 k hki] at k1
    have hp : pid (C ++ [i]) j = pid C j := by
      unfold pid
      cases j with
      | zero => rfl
      | succ j => simp only; rw [List.getElem?_append_left (by omega)]
    by_cases c : j + 1 = C.length
    · have hlast : C.getLast? = some k := by
        rw [List.getLast?_eq_getElem?, show C.length - 1 = j by omega]; exact hj
      have hn : nid (C ++ [i]) j = i + 1 := nid_some (by rw [List.getElem?_append_right (by omega), c, Nat.sub_self]; rfl)
      have hw : nx < y.ws.length := (List.getElem?_eq_some_iff.1 k2.n).1
      refine ⟨_, h3 k y hlast k1, k2.tk, ?_, ?_⟩
      · rw [hn, List.getElem?_set]; simp [hw]
      · rw [hp, List.getElem?_set, if_neg hne]; exact k2.p
    · have hn : nid (C ++ [i]) j = nid C j := by
        unfold nid; rw [List.getElem?_append_left (by omega)]
      have hlast : C.getLast? ≠ some k := fun e => by
        rw [List.getLast?_eq_getElem?] at e
        have := nodup_at h.nd hj e
        omega
      rw [h2 k hlast]
      exact ⟨y, k1, by rw [hn, hp]; exact k2⟩
  · have hjl : j = C.length := by
      have := (List.getElem?_eq_some_iff.1 hj).1
      simp at this; omega
    subst hjl
    rw [List.getElem?_append_right (Nat.le_refl _), Nat.sub_self] at hj
    simp at hj
    subst hj
    have hlast : C.getLast? ≠ some i := fun e => hi (List.mem_of_getLast? e)
    rw [h2 i hlast]
    have hn : nid (C ++ [i]) C.length = 0 := nid_none (by simp)
    have hp : pid (C ++ [i]) C.length = tlI C := by
      rw [tl_pid]
      unfold pid
      split
      · rfl
      · rename_i n h0
        rw [List.getElem?_append_left (by omega)]
    exact ⟨e, he, by rw [hn, hp]; exact hl⟩
/-- one less -/
theorem Linked.drop {E E2 : List PE} {nx pv : Nat} {C : List Nat} (h : Linked E nx pv C) {d i : Nat} (hd : C[d]? = some i) (hne : nx ≠ pv)
    (h1 : ∀ j, (∀ d', d = d' + 1 → C[d']? ≠ some j) → C[d + 1]? ≠ some j → E2[j]? = E[j]?)
    (h2 : ∀ d' j x, d = d' + 1 → C[d']? = some j → E[j]? = some x → E2[j]? = some { x with ws := x.ws.set nx (nid C d : Int) })
    (h3 : ∀ j x, C[d + 1]? = some j → E[j]? = some x → E2[j]? = some { x with ws := x.ws.set pv (pid C d : Int) }) : Linked E2 nx pv (C.eraseIdx d) := by
  have hdl := (List.getElem?_eq_some_iff.1 hd).1
  have get : ∀ j, (C.eraseIdx d)[j]? = if j < d then C[j]? else C[j + 1]? := fun j => List.getElem?_eraseIdx
  refine ⟨h.nd.sublist (List.eraseIdx_sublist _ _), fun j k hj => ?_⟩
  rw [get] at hj
  split at hj
  · rename_i hjd
    obtain ⟨y, k1, k2⟩ := h.at_ j k hj
    have hp : pid (C.eraseIdx d) j = pid C j := by
      unfold pid
      cases j with
      | zero => rfl
      | succ j => simp only [get]; rw [if_pos (by omega)]
    have hnx : C[d + 1]? ≠ some k := fun e => by have := nodup_at h.nd hj e; omega
    by_cases c : d = j + 1
    · have hn : nid (C.eraseIdx d) j = nid C d := by
        unfold nid; rw [get, if_neg (by omega), c]
      have hw : nx < y.ws.length := (List.getElem?_eq_some_iff.1 k2.n).1
      refine ⟨_, h2 j k y c hj k1, k2.tk, ?_, ?_⟩
      · rw [hn, List.getElem?_set]; simp [hw]
      · rw [hp, List.getElem?_set, if_neg hne]; exact k2.p
    · have hn : nid (C.eraseIdx d) j = nid C j := by
        unfold nid; rw [get, if_pos (by omega)]
      have hpv : ∀ d', d = d' + 1 → C[d']? ≠ some k := fun d' e1 e2 => by have := nodup_at h.nd hj e2; omega
      rw [h1 k hpv hnx]
      exact ⟨y, k1, by rw [hn, hp]; exact k2⟩
  · rename_i hjd
    obtain ⟨y, k1, k2⟩ := h.at_ (j + 1) k hj
    have hn : nid (C.eraseIdx d) j = nid C (j + 1) := by
      unfold nid; rw [get, if_neg (by omega)]
    have hpv : ∀ d', d = d' + 1 → C[d']? ≠ some k := fun d' e1 e2 => by have := nodup_at h.nd hj e2; omega
    by_cases c : j = d
    · subst c
      have hp : pid (C.eraseIdx j) j = pid C j := by
        unfold pid
        cases j with
        | zero => rfl
        | succ j => simp only [get]; rw [if_pos (by omega)]
      have hw : pv < y.ws.length := (List.getElem?_eq_some_iff.1 k2.p).1
      refine ⟨_, h3 k y hj k1, k2.tk, ?_, ?_⟩
      · rw [hn, List.getElem?_set, if_neg (fun e => hne e.symm)]; exact k2.n
      · rw [hp, List.getElem?_set]; simp [hw]
    · have hp : pid (C.eraseIdx d) j = pid C (j + 1) := by
        unfold pid
        cases j with
        | zero => omega
        | succ j => simp only [get]; rw [if_neg (by omega)]
      have hnx : C[d + 1]? ≠ some k := fun e => by have := nodup_at h.nd hj e; omega
      rw [h1 k hpv hnx]
      exact ⟨y, k1, by rw [hn, hp]; exact k2⟩
theorem hd_drop {C : List Nat} {d i : Nat} (hd : C[d]? = some i) : hdI (C.eraseIdx d) = if pid C d = 0 then nid C d else hdI C := by
  cases C with
  | nil => simp at hd
  | cons c C =>
    cases d with
    | zero =>
      show hdI C = if (0 : Nat) = 0 then nid (c :: C) 0 else hdI (c :: C)
      rw [if_pos rfl]
      unfold nid hdI
      cases C <;> rfl
    | succ d =>
      have : pid (c :: C) (d + 1) ≠ 0 := by
        have hl := (List.getElem?_eq_some_iff.1 hd).1
        unfold pid
        simp only
        rw [List.getElem?_eq_getElem (show d < (c :: C).length by omega)]; simp
      rw [if_neg this]; rfl
theorem tl_drop {C : List Nat} {d i : Nat} (hd : C[d]? = some i) : tlI (C.eraseIdx d) = if nid C d = 0 then pid C d else tlI C := by
  have hl := (List.getElem?_eq_some_iff.1 hd).1
  have hlen : (C.eraseIdx d).length = C.length - 1 := by rw [List.length_eraseIdx, if_pos hl]
  rw [tl_pid, hlen, tl_pid]
  by_cases c : d + 1 = C.length
  · rw [if_pos (nid_none (by omega)), show C.length - 1 = d by omega]
    unfold pid
    cases d with
    | zero => rfl
    | succ d => simp only [List.getElem?_eraseIdx]; rw [if_pos (by omega)]
  · have : nid C d ≠ 0 := by
      unfold nid
      rw [List.getElem?_eq_getElem (show d + 1 < C.length by omega)]; simp
    rw [if_neg this]
    obtain ⟨m, hm⟩ : ∃ m, C.length = m + 2 := ⟨C.length - 2, by omega⟩
    rw [hm, show m + 2 - 1 = m + 1 by omega]
    unfold pid
    simp only [List.getElem?_eraseIdx]
    rw [if_neg (by omega)]
end Go.Abs.Try
