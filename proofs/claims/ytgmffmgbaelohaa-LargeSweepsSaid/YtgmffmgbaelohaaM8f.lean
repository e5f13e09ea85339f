/-
  Layer 8: each call, whatever it is asked: what it answers and what is behind it. No conditions.
-/
import Derived.Test.YtgmffmgbaelohaaM8e
set_option linter.unusedVariables false
set_option linter.unusedSimpArgs false
set_option linter.constructorNameAsVariable false
set_option linter.unusedSimpArgs false
set_option linter.unusedVariables false
set_option linter.unusedSectionVars false
namespace Go.Abs.Try
open Go Go.Abs
variable {O : Type}

abbrev Sps := List (Bool × List Int)
/-- the first number that is free -/
def ff (l : Sps) : Nat := l.findIdx fun s => !s.1
theorem ff_free (l : Sps) : Free l (ff l) := by
  refine ⟨List.findIdx_le_length, fun j hj => ?_, fun s hs => ?_⟩
  · have hlt : j < l.length := Nat.lt_of_lt_of_le hj List.findIdx_le_length
    have := List.not_of_lt_findIdx hj
    simp only [Bool.not_eq_true, Bool.not_eq_false'] at this
    exact ⟨l[j].2, by rw [List.getElem?_eq_getElem hlt]; congr 1; exact Prod.ext this rfl⟩
  · have hlt := (List.getElem?_eq_some_iff.1 hs).1
    have h1 := List.findIdx_getElem (w := hlt)
    have e : l[ff l]'hlt = s := (List.getElem?_eq_some_iff.1 hs).2
    rw [← e]
    simp only [Bool.not_eq_true'] at h1
    exact h1
/-- the words of a space that is open -/
def wordsOf (l : Sps) (id : Int) : Option (List Int) := if 0 ≤ id then (match l[id.toNat]? with | some (true, w) => some w | _ => none) else none
theorem wordsOf_some {l : Sps} {id : Int} {w : List Int} (h : wordsOf l id = some w) : 0 ≤ id ∧ l[id.toNat]? = some (true, w) := by
  unfold wordsOf at h
  split at h
  · rename_i h0
    split at h
    · rename_i hw; cases h; exact ⟨h0, hw⟩
    · cases h
  · cases h
theorem wordsOf_none {l : Sps} {id : Int} (h : wordsOf l id = none) : ¬ isOp l id := by
  rintro ⟨h0, w, hw⟩
  simp [wordsOf, h0, hw] at h
theorem wordsOf_mk {l : Sps} {id : Int} {w : List Int} (h0 : 0 ≤ id) (h : l[id.toNat]? = some (true, w)) : wordsOf l id = some w := by simp [wordsOf, h0, h]

def MemS.opnR (M : MemS) (n : Int) : MemS × Int × Int := if n < 0 then (M, 0, 1) else if n > 4194304 then (M, 0, 7) else if M.count ≥ 262144 then (M, 0, 3) else (M.opn (ff M.sp) n, ff M.sp, 0)
def MemS.closeR (M : MemS) (id : Int) : MemS × Int := match wordsOf M.sp id with | none => (M, 10) | some w => (M.close id.toNat w, 0)
def MemS.growR (M : MemS) (id n : Int) : MemS × Int := match wordsOf M.sp id with | none => (M, 10) | some w => if n < w.length then (M, 1) else if n > 4194304 then (M, 7) else (M.grow id.toNat w n, 0)
/-- what is wrong with so many words of a space -/
def wrongR (l : Sps) (id at_ n : Int) : Int := match wordsOf l id with | none => 10 | some w => if n < 0 ∨ at_ < 0 ∨ at_ > w.length ∨ n > w.length - at_ then 11 else 0
def MemS.readR (M : MemS) (id at_ : Int) : MemS × Int × Int := if wrongR M.sp id at_ 1 = 0 then (M.rd 1, ((wordsOf M.sp id).getD []).getD at_.toNat 0, 0) else (M, 0, wrongR M.sp id at_ 1)
def MemS.writeR (M : MemS) (id at_ x : Int) : MemS × Int := if wrongR M.sp id at_ 1 = 0 then ((M.wr 1).put id.toNat (((wordsOf M.sp id).getD []).set at_.toNat x), 0) else (M, wrongR M.sp id at_ 1)
def MemS.zeroR (M : MemS) (id at_ n : Int) : MemS × Int := if wrongR M.sp id at_ n = 0 then ((M.wr n).put id.toNat (patched ((wordsOf M.sp id).getD []) at_.toNat (List.replicate n.toNat 0)), 0) else (M, wrongR M.sp id at_ n)
theorem wrong_0 {l : Sps} {id at_ n : Int} (h : wrongR l id at_ n = 0) : ∃ w, wordsOf l id = some w ∧ 0 ≤ n ∧ 0 ≤ at_ ∧ at_ + n ≤ w.length := by
  unfold wrongR at h
  split at h
  · omega
  · rename_i w hw
    split at h
    · omega
    · exact ⟨w, hw, by omega, by omega, by omega⟩
theorem wrong_10 {l : Sps} {id at_ n : Int} : wrongR l id at_ n = 10 ↔ wordsOf l id = none := by
  unfold wrongR
  split
  · rename_i h; simp [h]
  · rename_i w hw
    split <;> simp [hw]
theorem wrong_11 {l : Sps} {id at_ n : Int} (h : wrongR l id at_ n ≠ 0) (h' : wordsOf l id ≠ none) : wrongR l id at_ n = 11 ∧ ∃ w, wordsOf l id = some w ∧ (n < 0 ∨ at_ < 0 ∨ at_ > w.length ∨ n > w.length - at_) := by
  unfold wrongR at h ⊢
  split
  · rename_i hw; exact absurd hw h'
  · rename_i w hw
    rw [hw] at h
    simp only at h
    split at h
    · rename_i hc; exact ⟨by rw [if_pos hc], w, hw, hc⟩
    · exact absurd rfl h

/-- behind a call -/
structure Behind (σ : AH O) (mb : Nat) (F : List Nat) (M' : MemS) (σ' : AH O) : Prop where
  ex : ∃ F', MemAt σ' mb F' M' ∧ Fp F F' σ
  chg : Chg F σ σ'
  ok : M'.ok
theorem Behind.refl {σ : AH O} {mb : Nat} {F : List Nat} {M : MemS} (h : MemAt σ mb F M) (hM : M.ok) : Behind σ mb F M σ := ⟨⟨F, h, Fp.refl _ _⟩, Chg.refl _ _, hM⟩
/-- there is room in the counters -/
structure MemS.calm (M : MemS) : Prop where
  r : M.met.r < 85070591730234615865843651857942052864
  w : M.met.w < 85070591730234615865843651857942052864

section
variable {σ : AH O} {mb : Nat} {F : List Nat} {M : MemS} (h : MemAt σ mb F M) (hM : M.ok) (hc : M.calm)
include h hM hc

theorem openT {n : Int} : Ok (mem_Mem__Open [.p (some (.n mb, 0)), .i .i64 n] σ) fun r => r.1 = .tup [.i .i64 (M.opnR n).2.1, .i .i64 (M.opnR n).2.2] ∧ Behind σ mb F (M.opnR n).1 r.2 := by
  by_cases hb : n < 0 ∨ n > 4194304 ∨ M.count ≥ 262144
  · refine Ok_of (open_bad h hb) ?_
    have : M.opnR n = (M, 0, if n < 0 then 1 else if n > 4194304 then 7 else 3) := by
      unfold MemS.opnR; repeat' split
      all_goals first | rfl | omega
    rw [this]
    exact ⟨rfl, .refl h hM⟩
  · have h1 : 0 ≤ n := by omega
    have h2 : n ≤ 4194304 := by omega
    have h3 : M.count < 262144 := by omega
    have : M.opnR n = (M.opn (ff M.sp) n, (ff M.sp : Int), 0) := by
      unfold MemS.opnR; rw [if_neg (by omega), if_neg (by omega), if_neg (by omega)]
    rw [this]
    refine (open_ok h hM h1 h2 h3).mono fun r ⟨i, hf, g1, F', g2, g3, g4⟩ => ?_
    obtain rfl := hf.uniq (ff_free M.sp)
    exact ⟨g1, ⟨F', g2, g4⟩, g3, MemS.opn_ok hM hf h1 h2 h3⟩
theorem closeT {id : Int} (hid : id ≤ 9223372036854775807) : Ok (mem_Mem__Close [.p (some (.n mb, 0)), .i .i64 id] σ) fun r => r.1 = .i .i64 (M.closeR id).2 ∧ Behind σ mb F (M.closeR id).1 r.2 := by
  unfold MemS.closeR
  cases hw : wordsOf M.sp id with
  | none => exact Ok_of (close_no h (wordsOf_none hw)) ⟨rfl, .refl h hM⟩
  | some w =>
    obtain ⟨h0, hw⟩ := wordsOf_some hw
    exact (close_ok h hM h0 hid hw).mono fun r ⟨g1, F', g2, g3, g4⟩ => ⟨g1, ⟨F', g2, g4⟩, g3, MemS.close_okS hM hw⟩
theorem growT {id n : Int} : Ok (mem_Mem__Grow [.p (some (.n mb, 0)), .i .i64 id, .i .i64 n] σ) fun r => r.1 = .i .i64 (M.growR id n).2 ∧ Behind σ mb F (M.growR id n).1 r.2 := by
  unfold MemS.growR
  cases hw : wordsOf M.sp id with
  | none => exact Ok_of (grow_no h (wordsOf_none hw)) ⟨rfl, .refl h hM⟩
  | some w =>
    obtain ⟨h0, hw⟩ := wordsOf_some hw
    simp only
    by_cases c1 : n < w.length
    · rw [if_pos c1]
      refine Ok_of (grow_bad h h0 hw (.inl c1)) ⟨?_, .refl h hM⟩
      rw [if_pos c1]
    · rw [if_neg c1]
      by_cases c2 : n > 4194304
      · rw [if_pos c2]
        refine Ok_of (grow_bad h h0 hw (.inr c2)) ⟨?_, .refl h hM⟩
        rw [if_neg c1]
      · rw [if_neg c2]
        exact (grow_ok h hM h0 hw (by omega) (by omega)).mono fun r ⟨g1, F', g2, g3, g4⟩ => ⟨g1, ⟨F', g2, g4⟩, g3, MemS.grow_okS hM hw (by omega) (by omega)⟩
theorem readT {id at_ : Int} (ha : -9223372036854775808 ≤ at_ ∧ at_ ≤ 9223372036854775807) : Ok (mem_Mem__Read [.p (some (.n mb, 0)), .i .i64 id, .i .i64 at_] σ) fun r => r.1 = .tup [.i .u64 (M.readR id at_).2.1, .i .i64 (M.readR id at_).2.2] ∧ Behind σ mb F (M.readR id at_).1 r.2 := by
  unfold MemS.readR
  have hr := hc.r
  by_cases hz : wrongR M.sp id at_ 1 = 0
  · rw [if_pos hz]
    obtain ⟨w, hw, h1, h2, h3⟩ := wrong_0 hz
    obtain ⟨h0, hw'⟩ := wordsOf_some hw
    have hlt : at_.toNat < w.length := by omega
    have hx := List.getElem?_eq_getElem hlt
    simp only [hw, Option.getD_some, List.getD_eq_getElem?_getD, hx]
    exact (read_ok h hM h0 hw' h2 hx).mono fun r ⟨g1, g2, g3⟩ => ⟨g1, ⟨F, g2, Fp.refl _ _⟩, g3, MemS.rd_ok hM (by omega) (by omega)⟩
  · rw [if_neg hz]
    by_cases hn : wordsOf M.sp id = none
    · rw [wrong_10.2 hn]
      exact Ok_of (read_no h (wordsOf_none hn)) ⟨rfl, .refl h hM⟩
    · obtain ⟨e, w, hw, hb⟩ := wrong_11 hz hn
      obtain ⟨h0, hw'⟩ := wordsOf_some hw
      rw [e]
      exact Ok_of (read_out h hM h0 hw' ha (by omega)) ⟨rfl, .refl h hM⟩
theorem writeT {id at_ x : Int} (ha : -9223372036854775808 ≤ at_ ∧ at_ ≤ 9223372036854775807) : Ok (mem_Mem__Write [.p (some (.n mb, 0)), .i .i64 id, .i .i64 at_, .i .u64 x] σ) fun r => r.1 = .i .i64 (M.writeR id at_ x).2 ∧ Behind σ mb F (M.writeR id at_ x).1 r.2 := by
  unfold MemS.writeR
  have hr := hc.w
  by_cases hz : wrongR M.sp id at_ 1 = 0
  · rw [if_pos hz]
    obtain ⟨w, hw, h1, h2, h3⟩ := wrong_0 hz
    obtain ⟨h0, hw'⟩ := wordsOf_some hw
    simp only [hw, Option.getD_some]
    exact (write_ok h hM h0 hw' h2 (by omega)).mono fun r ⟨g1, g2, g3⟩ => ⟨g1, ⟨F, g2, Fp.refl _ _⟩, g3, MemS.put_ok (MemS.wr_ok hM (by omega) (by omega)) hw' (by simp)⟩
  · rw [if_neg hz]
    by_cases hn : wordsOf M.sp id = none
    · rw [wrong_10.2 hn]
      exact Ok_of (write_no h (wordsOf_none hn)) ⟨rfl, .refl h hM⟩
    · obtain ⟨e, w, hw, hb⟩ := wrong_11 hz hn
      obtain ⟨h0, hw'⟩ := wordsOf_some hw
      rw [e]
      exact Ok_of (write_out h hM h0 hw' ha (by omega)) ⟨rfl, .refl h hM⟩
theorem zeroT {id at_ n : Int} (ha : -9223372036854775808 ≤ at_ ∧ at_ ≤ 9223372036854775807) : Ok (mem_Mem__Zero [.p (some (.n mb, 0)), .i .i64 id, .i .i64 at_, .i .i64 n] σ) fun r => r.1 = .i .i64 (M.zeroR id at_ n).2 ∧ Behind σ mb F (M.zeroR id at_ n).1 r.2 := by
  unfold MemS.zeroR
  have hr := hc.w
  by_cases hz : wrongR M.sp id at_ n = 0
  · rw [if_pos hz]
    obtain ⟨w, hw, h1, h2, h3⟩ := wrong_0 hz
    obtain ⟨h0, hw'⟩ := wordsOf_some hw
    have := hM.len hw'
    simp only [hw, Option.getD_some]
    exact (zero_ok h hM h0 hw' h2 h1 h3).mono fun r ⟨g1, g2, g3⟩ => ⟨g1, ⟨F, g2, Fp.refl _ _⟩, g3, MemS.put_ok (MemS.wr_ok hM (by omega) (by omega)) hw' (patched_len (by simp; omega))⟩
  · rw [if_neg hz]
    by_cases hn : wordsOf M.sp id = none
    · rw [wrong_10.2 hn]
      exact Ok_of (zero_no h (wordsOf_none hn)) ⟨rfl, .refl h hM⟩
    · obtain ⟨e, w, hw, hb⟩ := wrong_11 hz hn
      obtain ⟨h0, hw'⟩ := wordsOf_some hw
      rw [e]
      exact Ok_of (zero_out h hM h0 hw' ha hb) ⟨rfl, .refl h hM⟩
end
end Go.Abs.Try
