/-
  The functions of layer 11: references.
-/
import Derived.Test.YtdbnoocdpbkkpaaS1
import Derived.Test.YtdbnoocdpbkkpaaAbsSl
set_option linter.unusedVariables false
set_option linter.unusedSimpArgs false
set_option linter.unusedSimpArgs false
namespace Go.Abs.Try
open Go Go.Abs
variable {O : Type}

def smallW (n : Int) : Int := if 0 ≤ n ∧ n < 4194304 then 2 * n + 1 else 0
def smallE (n : Int) : Int := if 0 ≤ n ∧ n < 4194304 then 0 else 2
def largeW (n : Int) : Int := if 1 ≤ n ∧ n ≤ 1048576 then 2 * n else 0
def largeE (n : Int) : Int := if 1 ≤ n ∧ n ≤ 1048576 then 0 else 2
def kindOf (w : Int) : Int := if w = 0 then 0 else if w % 2 = 1 ∧ w / 2 < 4194304 then 1 else if w % 2 = 0 ∧ w / 2 ≤ 1048576 then 2 else 3
def atOf (w : Int) : Int := if kindOf w = 1 ∨ kindOf w = 2 then w / 2 else 0

theorem toSmall_eq {n : Int} {σ : AH O} (h : -9223372036854775808 ≤ n) (h' : n ≤ 9223372036854775807) : ref_ToSmall [.i .i64 n] σ = some (.tup [.i .u64 (smallW n), .i .i64 (smallE n)], σ) := by
  simp only [ref_ToSmall, len0, len1, len2, len3, len4, len5, get0, get1, get2, get3, get4, get5, Option.bind_some, asI_i, asB_b, asS_s, asP_p, asPS_p, asSl_sl, asTup2, asTup3, asTup4, joinB, joinI, beq_true, beq_false, Bool.not_true, Bool.not_false, Bool.not_not, cond_true, cond_false, bne, smallW, smallE]
  by_cases h1 : n < 0
  · simp [h1, show ¬ 0 ≤ n by omega]
  · by_cases h2 : n < 4194304
    · have e : IntKind.u64.wrap (IntKind.u64.wrap n * 2 ^ 1) = 2 * n := by rw [wrap_u64, wrap_u64]; omega
      rw [e, or_one_u64 (by omega) (by omega) (by omega)]
      simp [h1, h2, show 0 ≤ n by omega, show ¬ 4194304 ≤ n by omega]
    · simp [h1, h2, show 4194304 ≤ n by omega]
theorem toLarge_eq {n : Int} {σ : AH O} (h : -9223372036854775808 ≤ n) (h' : n ≤ 9223372036854775807) : ref_ToLarge [.i .i64 n] σ = some (.tup [.i .u64 (largeW n), .i .i64 (largeE n)], σ) := by
  simp only [ref_ToLarge, len0, len1, len2, len3, len4, len5, get0, get1, get2, get3, get4, get5, Option.bind_some, asI_i, asB_b, asS_s, asP_p, asPS_p, asSl_sl, asTup2, asTup3, asTup4, joinB, joinI, beq_true, beq_false, Bool.not_true, Bool.not_false, Bool.not_not, cond_true, cond_false, bne, largeW, largeE]
  by_cases h1 : n < 1
  · simp [h1, show ¬ 1 ≤ n by omega]
  · by_cases h2 : n ≤ 1048576
    · have e : IntKind.u64.wrap (IntKind.u64.wrap n * 2 ^ 1) = 2 * n := by rw [wrap_u64, wrap_u64]; omega
      rw [e]
      simp [h1, h2, show 1 ≤ n by omega, show ¬ 1048576 < n by omega]
    · simp [h1, h2, show 1048576 < n by omega]
theorem kind_eq {n : Int} {σ : AH O} (h : 0 ≤ n) (h' : n < 18446744073709551616) : ref_Ref__Kind [.i .u64 n] σ = some (.i .i64 (kindOf n), σ) := by
  have e : Int.fdiv n (2 ^ 1) = n / 2 := by rw [Int.fdiv_eq_ediv_of_nonneg _ (by decide)]; rfl
  simp only [ref_Ref__Kind, len0, len1, len2, len3, len4, len5, get0, get1, get2, get3, get4, get5, Option.bind_some, asI_i, asB_b, asS_s, asP_p, asPS_p, asSl_sl, asTup2, asTup3, asTup4, joinB, joinI, beq_true, beq_false, Bool.not_true, Bool.not_false, Bool.not_not, cond_true, cond_false, bne, kindOf, and_one_u64 h h', e]
  by_cases h0 : n = 0
  · simp [h0]
  · have hb : (n == 0) = false := by simpa using h0
    by_cases h1 : n % 2 = 1
    · have h2 : ¬ n % 2 = 0 := by omega
      by_cases h3 : n / 2 < 4194304
      · simp [hb, h0, h1, h3]
      · simp [hb, h0, h1, h3]
    · have h2 : n % 2 = 0 := by omega
      by_cases h3 : n / 2 ≤ 1048576
      · simp [hb, h0, h2, h3]
      · simp [hb, h0, h2, h3]
theorem at_eq {n : Int} {σ : AH O} (h : 0 ≤ n) (h' : n < 18446744073709551616) : ref_Ref__At [.i .u64 n] σ = some (.i .i64 (atOf n), σ) := by
  have e : IntKind.i64.wrap (Int.fdiv n (2 ^ 1)) = n / 2 := by rw [Int.fdiv_eq_ediv_of_nonneg _ (by decide), wrap_i64]; omega
  simp only [ref_Ref__At, len0, len1, len2, len3, len4, len5, get0, get1, get2, get3, get4, get5, Option.bind_some, asI_i, asB_b, asS_s, asP_p, asPS_p, asSl_sl, asTup2, asTup3, asTup4, joinB, joinI, beq_true, beq_false, Bool.not_true, Bool.not_false, Bool.not_not, cond_true, cond_false, bne, kind_eq h h', atOf, e]
  by_cases h1 : kindOf n = 1
  · simp [h1]
  · by_cases h2 : kindOf n = 2
    · simp [h2]
    · simp [h1, h2, Bool.cond_eq_ite]
theorem awake11_eq {σ : AH O} : law11_awake [] σ = some (.b true, σ) := by
  simp only [law11_awake, len0, len1, len2, len3, len4, len5, get0, get1, get2, get3, get4, get5, Option.bind_some, asI_i, asB_b, asS_s, asP_p, asPS_p, asSl_sl, asTup2, asTup3, asTup4, joinB, joinI, beq_true, beq_false, Bool.not_true, Bool.not_false, Bool.not_not, cond_true, cond_false, bne, toSmall_eq (n := 5) (by omega) (by omega), toLarge_eq (n := 5) (by omega) (by omega)]
  have e1 : smallW 5 = 11 := rfl
  have e2 : largeW 5 = 10 := rfl
  rw [e1, e2]
  simp only [len0, len1, len2, len3, len4, len5, get0, get1, get2, get3, get4, get5, Option.bind_some, asI_i, asB_b, asS_s, asP_p, asPS_p, asSl_sl, asTup2, asTup3, asTup4, joinB, joinI, beq_true, beq_false, Bool.not_true, Bool.not_false, Bool.not_not, cond_true, cond_false, bne, kind_eq (n := 11) (by omega) (by omega)]
  rfl
theorem refWord_eq {k n : Int} {σ : AH O} (h : -9223372036854775808 ≤ n) (h' : n ≤ 9223372036854775807) (hk : k = 1 ∨ k = 2) :
    haymowref11_Word [.i .i64 k, .i .i64 n] σ = some (.tup [.i .u64 (if k = 1 then smallW n else largeW n), .b (if k = 1 then decide (smallE n = 0) else decide (largeE n = 0))], σ) := by
  simp only [haymowref11_Word, len0, len1, len2, len3, len4, len5, get0, get1, get2, get3, get4, get5, Option.bind_some, asI_i, asB_b, asS_s, asP_p, asPS_p, asSl_sl, asTup2, asTup3, asTup4, joinB, joinI, beq_true, beq_false, Bool.not_true, Bool.not_false, Bool.not_not, cond_true, cond_false, bne, smallW, smallE, largeW, largeE]
  rcases hk with rfl | rfl
  · by_cases h1 : 0 ≤ n
    · by_cases h2 : n < 4194304
      · have e : IntKind.u64.wrap (IntKind.u64.wrap (2 * IntKind.u64.wrap n) + 1) = 2 * n + 1 := by rw [wrap_u64, wrap_u64, wrap_u64]; omega
        simp [h1, h2, e]
      · simp [h1, h2]
    · simp [h1]
  · by_cases h1 : 1 ≤ n
    · by_cases h2 : n ≤ 1048576
      · have e : IntKind.u64.wrap (2 * IntKind.u64.wrap n) = 2 * n := by rw [wrap_u64, wrap_u64]; omega
        simp [h1, h2, e]
      · simp [h1, h2]
    · simp [h1]
theorem of_eq {n : Int} {σ : AH O} (h : 0 ≤ n) (h' : n < 18446744073709551616) : ref_Of [.i .u64 n] σ = some (.tup [.i .u64 (if kindOf n = 3 then 0 else n), .i .i64 (if kindOf n = 3 then 5 else 0)], σ) := by
  simp only [ref_Of, len0, len1, len2, len3, len4, len5, get0, get1, get2, get3, get4, get5, Option.bind_some, asI_i, asB_b, asS_s, asP_p, asPS_p, asSl_sl, asTup2, asTup3, asTup4, joinB, joinI, beq_true, beq_false, Bool.not_true, Bool.not_false, Bool.not_not, cond_true, cond_false, bne, kind_eq h h']
  by_cases h1 : kindOf n = 3 <;> simp [h1, Bool.cond_eq_ite]
theorem refRead_eq {n : Int} {σ : AH O} (h : 0 ≤ n) (h' : n < 18446744073709551616) : haymowref11_Read [.i .u64 n] σ = some (.tup [.i .i64 (kindOf n), .i .i64 (atOf n)], σ) := by
  have e0 : Int.tmod n 2 = n % 2 := Int.tmod_eq_emod_of_nonneg h
  have e1 : IntKind.u64.wrap (Int.tdiv n 2) = n / 2 := by rw [Int.tdiv_eq_ediv_of_nonneg h, wrap_u64]; omega
  have e2 : IntKind.i64.wrap (n / 2) = n / 2 := by rw [wrap_i64]; omega
  simp only [haymowref11_Read, len0, len1, len2, len3, len4, len5, get0, get1, get2, get3, get4, get5, Option.bind_some, asI_i, asB_b, asS_s, asP_p, asPS_p, asSl_sl, asTup2, asTup3, asTup4, joinB, joinI, beq_true, beq_false, Bool.not_true, Bool.not_false, Bool.not_not, cond_true, cond_false, bne, kindOf, atOf, e0, e1, e2]
  by_cases h0 : n = 0
  · simp [h0]
  · have hb : (n == 0) = false := by simpa using h0
    by_cases h1 : n % 2 = 1
    · have h2 : ¬ n % 2 = 0 := by omega
      by_cases h3 : n / 2 < 4194304
      · simp [hb, h0, h1, h3]
      · simp [hb, h0, h1, h3]
    · have h2 : n % 2 = 0 := by omega
      by_cases h3 : n / 2 ≤ 1048576
      · simp [hb, h0, h2, h3]
      · simp [hb, h0, h2, h3]

theorem small_u64 (n : Int) : 0 ≤ smallW n ∧ smallW n < 18446744073709551616 := by unfold smallW; split <;> omega
theorem large_u64 (n : Int) : 0 ≤ largeW n ∧ largeW n < 18446744073709551616 := by unfold largeW; split <;> omega

theorem refApart_ok {n m : Int} {σ : AH O} (h : -9223372036854775808 ≤ n) (h' : n ≤ 9223372036854775807) (k : -9223372036854775808 ≤ m) (k' : m ≤ 9223372036854775807) : Ok (law11_RefApart [.i .i64 n, .i .i64 m] σ) fun r => r.1 = .b true := by
  simp only [law11_RefApart, len0, len1, len2, len3, len4, len5, get0, get1, get2, get3, get4, get5, Option.bind_some, asI_i, asB_b, asS_s, asP_p, asPS_p, asSl_sl, asTup2, asTup3, asTup4, joinB, joinI, beq_true, beq_false, Bool.not_true, Bool.not_false, Bool.not_not, cond_true, cond_false, bne, awake11_eq, toSmall_eq h h', toSmall_eq k k', toLarge_eq h h', toLarge_eq k k']
  have e1 : (2 * n + 1 == 2 * m + 1) = (n == m) := by rw [Bool.eq_iff_iff]; simp; omega
  have e2 : (2 * n == 2 * m) = (n == m) := by rw [Bool.eq_iff_iff]; simp; omega
  unfold smallW smallE largeW largeE
  by_cases a1 : 0 ≤ n ∧ n < 4194304 <;> by_cases a2 : 1 ≤ n ∧ n ≤ 1048576 <;> by_cases b1 : 0 ≤ m ∧ m < 4194304 <;> by_cases b2 : 1 ≤ m ∧ m ≤ 1048576 <;> simp only [a1, a2, b1, b2, if_true, if_false, and_self, e1, e2] <;> simp [Ok, Bool.cond_eq_ite] <;> omega

theorem refMakes_ok {n : Int} {σ : AH O} (h : -9223372036854775808 ≤ n) (h' : n ≤ 9223372036854775807) : Ok (law11_RefMakes [.i .i64 n] σ) fun r => r.1 = .b true := by
  simp only [law11_RefMakes, len0, len1, len2, len3, len4, len5, get0, get1, get2, get3, get4, get5, Option.bind_some, asI_i, asB_b, asS_s, asP_p, asPS_p, asSl_sl, asTup2, asTup3, asTup4, joinB, joinI, beq_true, beq_false, Bool.not_true, Bool.not_false, Bool.not_not, cond_true, cond_false, bne, awake11_eq, toSmall_eq h h', toLarge_eq h h', refWord_eq h h' (.inl rfl), refWord_eq h h' (.inr rfl), if_true, kind_eq (small_u64 n).1 (small_u64 n).2, at_eq (small_u64 n).1 (small_u64 n).2, kind_eq (large_u64 n).1 (large_u64 n).2, at_eq (large_u64 n).1 (large_u64 n).2]
  simp only [show ¬ (2 : Int) = 1 by decide, if_false, len0, len1, len2, len3, len4, len5, get0, get1, get2, get3, get4, get5, Option.bind_some, asI_i, asB_b, asS_s, asP_p, asPS_p, asSl_sl, asTup2, asTup3, asTup4, joinB, joinI, beq_true, beq_false, Bool.not_true, Bool.not_false, Bool.not_not, cond_true, cond_false, bne, kind_eq (large_u64 n).1 (large_u64 n).2, at_eq (large_u64 n).1 (large_u64 n).2]
  have k1 : 0 ≤ n ∧ n < 4194304 → kindOf (2 * n + 1) = 1 ∧ atOf (2 * n + 1) = n := fun hn => by
    have : kindOf (2 * n + 1) = 1 := by unfold kindOf; rw [if_neg (by omega), if_pos (by omega)]
    exact ⟨this, by unfold atOf; rw [if_pos (.inl this)]; omega⟩
  have k2 : 1 ≤ n ∧ n ≤ 1048576 → kindOf (2 * n) = 2 ∧ atOf (2 * n) = n := fun hn => by
    have : kindOf (2 * n) = 2 := by unfold kindOf; rw [if_neg (by omega), if_neg (by omega), if_pos (by omega)]
    exact ⟨this, by unfold atOf; rw [if_pos (.inr this)]; omega⟩
  unfold smallW smallE largeW largeE
  by_cases a1 : 0 ≤ n ∧ n < 4194304 <;> by_cases a2 : 1 ≤ n ∧ n ≤ 1048576
  · simp [Ok, Bool.cond_eq_ite, a1, a2, k1 a1, k2 a2]
  · simp [Ok, Bool.cond_eq_ite, a1, a2, k1 a1]
  · simp [Ok, Bool.cond_eq_ite, a1, a2, k2 a2]
  · simp [Ok, Bool.cond_eq_ite, a1, a2]

theorem refReads_ok {w : Int} {σ : AH O} (h : 0 ≤ w) (h' : w < 18446744073709551616) : Ok (law11_RefReads [.i .u64 w] σ) fun r => r.1 = .b true := by
  simp only [law11_RefReads, len0, len1, len2, len3, len4, len5, get0, get1, get2, get3, get4, get5, Option.bind_some, asI_i, asB_b, asS_s, asP_p, asPS_p, asSl_sl, asTup2, asTup3, asTup4, joinB, joinI, beq_true, beq_false, Bool.not_true, Bool.not_false, Bool.not_not, cond_true, cond_false, bne, awake11_eq, refRead_eq h h', of_eq h h', kind_eq h h', at_eq h h']
  by_cases h3 : kindOf w = 3 <;> simp [Ok, h3, Bool.cond_eq_ite]
end Go.Abs.Try
