/-
  Layer 8: what is kept of the memory's state; the example of its page. No conditions.
-/
import Derived.Test.YtgmffmgbaelohaaM8d
set_option linter.unusedVariables false
set_option linter.unusedSimpArgs false
set_option linter.constructorNameAsVariable false
set_option linter.unusedSimpArgs false
namespace Go.Abs.Try
open Go Go.Abs
variable {O : Type}

theorem cnt_set {α : Type} {p : α → Bool} {l : List α} {i : Nat} {x y : α} (h : l[i]? = some y) : (l.set i x).countP p + (if p y = true then 1 else 0) = l.countP p + (if p x = true then 1 else 0) := by
  induction l generalizing i with
  | nil => simp at h
  | cons z l ih =>
    cases i with
    | zero => simp at h; subst h; simp only [List.set_cons_zero, List.countP_cons]; omega
    | succ i => simp at h; have := ih h; simp only [List.set_cons_succ, List.countP_cons]; omega
theorem MemS.new_ok : MemS.new.ok := ⟨⟨by decide, by decide, by decide, by decide⟩, by decide, fun i hi s hs => by simp [MemS.new] at hs, rfl, by decide, fun s hs => by simp [MemS.new] at hs, fun s hs => by simp [MemS.new] at hs, rfl⟩
theorem MemS.ok.cnt {M : MemS} (h : M.ok) : 0 ≤ M.count ∧ M.count ≤ 262144 := by
  rw [h.count]
  have := List.countP_le_length (p := fun s : Bool × List Int => s.1) (l := M.sp)
  have := h.few
  omega
theorem mem_set' {α : Type} {l : List α} {i : Nat} {x y : α} (h : y ∈ l.set i x) : y = x ∨ y ∈ l := by
  rcases List.mem_or_eq_of_mem_set h with g | g
  · exact .inr g
  · exact .inl g
theorem get_set {α : Type} {l : List α} {i j : Nat} {x y : α} (h : (l.set i x)[j]? = some y) : (j = i ∧ y = x) ∨ (j ≠ i ∧ l[j]? = some y) := by
  rw [List.getElem?_set] at h
  split at h
  · rename_i hij
    split at h
    · cases h; exact .inl ⟨hij.symm, rfl⟩
    · cases h
  · rename_i hij; exact .inr ⟨fun e => hij e.symm, h⟩
/-- the words of an open space are others now -/
theorem MemS.put_ok {M : MemS} (h : M.ok) {i : Nat} {w w' : List Int} (hw : M.sp[i]? = some (true, w)) (hl : w'.length = w.length) : (M.put i w').ok := by
  refine ⟨h.met, by simpa [MemS.put] using h.low, fun j hj s hs => ?_, ?_, by simpa [MemS.put] using h.few, fun s hs => ?_, fun s hs he => ?_, ?_⟩
  · rcases get_set hs with ⟨_, rfl⟩ | ⟨_, g⟩
    · rfl
    · exact h.below j hj s g
  · have := cnt_set (p := fun s : Bool × List Int => s.1) (x := (true, w')) hw
    simp only [if_true] at this
    simp only [MemS.put]
    rw [h.count]; omega
  · rcases mem_set' hs with rfl | g
    · simp only [hl]; exact h.len hw
    · exact h.size s g
  · rcases mem_set' hs with rfl | g
    · cases he
    · exact h.shut s g he
  · have : ((M.sp.map fun s => s.2.length))[i]? = some w.length := by rw [List.getElem?_map, hw]; rfl
    have := sum_set (x := w'.length) this
    simp only [MemS.put, List.map_set]
    rw [h.held]; omega
theorem MemS.wr_ok {M : MemS} (h : M.ok) {n : Int} (h0 : 0 ≤ n) (hn : M.met.w + n < 170141183460469231731687303715884105728) : (M.wr n).ok :=
  ⟨⟨h.met.r, ⟨by have := h.met.w; simp only [MemS.wr]; omega, hn⟩, h.met.held, h.met.high⟩, h.low, h.below, h.count, h.few, h.size, h.shut, h.held⟩
theorem MemS.rd_ok {M : MemS} (h : M.ok) {n : Int} (h0 : 0 ≤ n) (hn : M.met.r + n < 170141183460469231731687303715884105728) : (M.rd n).ok :=
  ⟨⟨⟨by have := h.met.r; simp only [MemS.rd]; omega, hn⟩, h.met.w, h.met.held, h.met.high⟩, h.low, h.below, h.count, h.few, h.size, h.shut, h.held⟩
theorem Met.hold_ok {m : Met} (h : m.ok) {n : Int} (h0 : 0 ≤ n) (hn : m.held + n ≤ 281474976710656) : (m.hold n).ok :=
  ⟨h.r, h.w, by have := h.held; simp only [Met.hold]; omega, by have := h.high; simp only [Met.hold]; omega⟩
theorem Met.free_ok {m : Met} (h : m.ok) {n : Int} (h0 : 0 ≤ n) (hn : n ≤ m.held) : (m.free n).ok :=
  ⟨h.r, h.w, by have := h.held; simp only [Met.free]; omega, by have := h.high; simp only [Met.free]; omega⟩
theorem MemS.grow_okS {M : MemS} (h : M.ok) {i : Nat} {w : List Int} (hw : M.sp[i]? = some (true, w)) {n : Int} (h1 : (w.length : Int) ≤ n) (h2 : n ≤ 4194304) : (M.grow i w n).ok := by
  refine ⟨Met.hold_ok h.met (by omega) (grow_room h hw h1 h2), by simpa [MemS.grow] using h.low, fun j hj s hs => ?_, ?_, by simpa [MemS.grow] using h.few, fun s hs => ?_, fun s hs he => ?_, ?_⟩
  · rcases get_set hs with ⟨_, rfl⟩ | ⟨_, g⟩
    · rfl
    · exact h.below j hj s g
  · have := cnt_set (p := fun s : Bool × List Int => s.1) (x := (true, w ++ List.replicate (n.toNat - w.length) 0)) hw
    simp only [if_true] at this
    simp only [MemS.grow]
    rw [h.count]; omega
  · rcases mem_set' hs with rfl | g
    · simp only [List.length_append, List.length_replicate]; omega
    · exact h.size s g
  · rcases mem_set' hs with rfl | g
    · cases he
    · exact h.shut s g he
  · have : ((M.sp.map fun s => s.2.length))[i]? = some w.length := by rw [List.getElem?_map, hw]; rfl
    have := sum_set (x := (w ++ List.replicate (n.toNat - w.length) 0).length) this
    simp only [List.length_append, List.length_replicate] at this
    simp only [MemS.grow, List.map_set, Met.hold, List.length_append, List.length_replicate]
    rw [h.held]; omega
theorem MemS.close_okS {M : MemS} (h : M.ok) {i : Nat} {w : List Int} (hw : M.sp[i]? = some (true, w)) : (M.close i w).ok := by
  have hi := (List.getElem?_eq_some_iff.1 hw).1
  have hs : ((M.sp.map fun s => s.2.length))[i]? = some w.length := by rw [List.getElem?_map, hw]; rfl
  have hsum := sum_set (x := ([] : List Int).length) hs
  simp only [List.length_nil] at hsum
  have hlow := h.low
  refine ⟨Met.free_ok h.met (by omega) (by rw [h.held]; omega), by simp only [MemS.close, List.length_set]; omega, fun j hj s hs => ?_, ?_, by simpa [MemS.close] using h.few, fun s hs => ?_, fun s hs he => ?_, ?_⟩
  · simp only [MemS.close] at hj
    rcases get_set hs with ⟨hji, _⟩ | ⟨_, g⟩
    · omega
    · exact h.below j (by omega) s g
  · have := cnt_set (p := fun s : Bool × List Int => s.1) (x := (false, [])) hw
    simp only [if_true, Bool.false_eq_true, if_false] at this
    simp only [MemS.close]
    rw [h.count]; omega
  · rcases mem_set' hs with rfl | g
    · simp
    · exact h.size s g
  · rcases mem_set' hs with rfl | g
    · rfl
    · exact h.shut s g he
  · simp only [MemS.close, List.map_set, Met.free, List.length_nil]
    rw [h.held]; omega
theorem putAt_get {l : List (Bool × List Int)} {i : Nat} {x : Bool × List Int} (hi : i ≤ l.length) (j : Nat) : (putAt l i x)[j]? = if j = i then some x else l[j]? := by
  unfold putAt
  by_cases h : i < l.length
  · rw [if_pos h, List.getElem?_set]
    by_cases hj : i = j
    · subst hj; simp [h]
    · simp [hj, Ne.symm hj]
  · obtain rfl : i = l.length := by omega
    rw [if_neg h, List.getElem?_append]
    by_cases hj : j < l.length
    · rw [if_pos hj, if_neg (by omega)]
    · rw [if_neg hj]
      by_cases hj' : j = l.length
      · subst hj'; simp
      · rw [if_neg hj', List.getElem?_eq_none (by simp; omega), List.getElem?_eq_none (by omega)]
theorem putAt_mem {l : List (Bool × List Int)} {i : Nat} {x y : Bool × List Int} (h : y ∈ putAt l i x) : y = x ∨ y ∈ l := by
  unfold putAt at h
  split at h
  · exact mem_set' h
  · simp at h; exact h.symm
theorem MemS.opn_ok {M : MemS} (h : M.ok) {i : Nat} (hf : Free M.sp i) {n : Int} (h1 : 0 ≤ n) (h2 : n ≤ 4194304) (h3 : M.count < 262144) : (M.opn i n).ok := by
  have hcl : (putAt M.sp i (true, List.replicate n.toNat 0)).countP (·.1) = M.sp.countP (·.1) + 1 ∧ ((putAt M.sp i (true, List.replicate n.toNat 0)).map fun s => s.2.length).sum = (M.sp.map fun s => s.2.length).sum + n.toNat ∧ (putAt M.sp i (true, List.replicate n.toNat 0)).length ≤ 262144 ∧ i < (putAt M.sp i (true, List.replicate n.toNat 0)).length := by
    unfold putAt
    by_cases hi : i < M.sp.length
    · rw [if_pos hi]
      have hs := List.getElem?_eq_getElem hi
      have ho := hf.here _ hs
      have hw := h.shut _ (List.mem_of_getElem? hs) ho
      have g1 := cnt_set (p := fun s : Bool × List Int => s.1) (x := (true, List.replicate n.toNat 0)) hs
      simp only [ho, if_true, Bool.false_eq_true, if_false] at g1
      have : ((M.sp.map fun s => s.2.length))[i]? = some 0 := by rw [List.getElem?_map, hs, Option.map_some, hw]; rfl
      have g2 := sum_set (x := (List.replicate n.toNat (0 : Int)).length) this
      simp only [List.length_replicate] at g2
      refine ⟨by omega, by rw [List.map_set]; simp only [List.length_replicate]; omega, by rw [List.length_set]; exact h.few, by simpa using hi⟩
    · rw [if_neg hi]
      have hle := hf.le
      have hall : M.sp.countP (·.1) = M.sp.length := by
        rw [List.countP_eq_length]
        intro s hs
        obtain ⟨j, hj⟩ := List.getElem?_of_mem hs
        have := (List.getElem?_eq_some_iff.1 hj).1
        obtain ⟨w, hw⟩ := hf.below j (by omega)
        rw [hj] at hw; cases hw; rfl
      have hc := h.count
      refine ⟨by simp, by simp, by simp; omega, by simp; omega⟩
  obtain ⟨c1, c2, c3, c4⟩ := hcl
  have hlow := h.low
  have hb := h.bound
  refine ⟨Met.hold_ok h.met h1 (by omega), ⟨by simp only [MemS.opn]; omega, by simp only [MemS.opn]; omega⟩, fun j hj s hs => ?_, by simp only [MemS.opn]; rw [c1, h.count]; omega, c3, fun s hs => ?_, fun s hs he => ?_, ?_⟩
  · simp only [MemS.opn] at hj hs
    rw [putAt_get hf.le] at hs
    split at hs
    · cases hs; rfl
    · obtain ⟨w, hw⟩ := hf.below j (by omega)
      rw [hw] at hs; cases hs; rfl
  · rcases putAt_mem hs with rfl | g
    · simp; omega
    · exact h.size s g
  · rcases putAt_mem hs with rfl | g
    · cases he
    · exact h.shut s g he
  · simp only [MemS.opn, Met.hold, c2]
    rw [h.held]; omega
/-- the meter within -/
theorem MemAt.meter {σ : AH O} {mb : Nat} {F : List Nat} {M : MemS} (h : MemAt σ mb F M) : ∃ tb el rest, σ.blk mb = some (.cells true el (.p (some (.n tb, 0)) :: rest)) ∧ MetAt σ tb M.met := by
  obtain ⟨tb, sa, L, rfl, e, hC⟩ := h
  obtain ⟨el, hm⟩ := hC.m
  exact ⟨tb, el, _, hm, hC.met⟩
theorem Fp.new {F F' : List Nat} {σ0 σ : AH O} (h : Fp F F' σ) (hn : σ0.next ≤ σ.next) (hF : ∀ b ∈ F, σ0.next ≤ b) : ∀ b ∈ F', σ0.next ≤ b := fun b hb => by
  rcases h b hb with g | g
  · exact hF b g
  · omega
theorem MemAt.mlt {σ : AH O} {mb : Nat} {F : List Nat} {M : MemS} (h : MemAt σ mb F M) : mb < σ.next := by
  obtain ⟨tb, sa, L, rfl, e, hC⟩ := h
  exact hC.mlt
end Go.Abs.Try
