/-
  AbsBits: integers that fit, and their bits.
-/
import Derived.Test.YtgmffmgbaelohaaAbsOk
set_option linter.unusedVariables false
set_option linter.unusedSimpArgs false
set_option linter.constructorNameAsVariable false
namespace Go.Abs
open Go

theorem wrap_u64 (n : Int) : IntKind.u64.wrap n = n % 18446744073709551616 := by simp [IntKind.wrap, IntKind.signed, IntKind.bits]
theorem wrap_u32 (n : Int) : IntKind.u32.wrap n = n % 4294967296 := by simp [IntKind.wrap, IntKind.signed, IntKind.bits]
theorem wrap_u16 (n : Int) : IntKind.u16.wrap n = n % 65536 := by simp [IntKind.wrap, IntKind.signed, IntKind.bits]
theorem wrap_u8 (n : Int) : IntKind.u8.wrap n = n % 256 := by simp [IntKind.wrap, IntKind.signed, IntKind.bits]
theorem wrap_i64 (n : Int) : IntKind.i64.wrap n = (n + 9223372036854775808) % 18446744073709551616 - 9223372036854775808 := by
  simp only [IntKind.wrap, IntKind.signed, IntKind.bits, Bool.true_and, ge_iff_le, decide_eq_true_eq]
  split <;> omega
theorem wrap_i32 (n : Int) : IntKind.i32.wrap n = (n + 2147483648) % 4294967296 - 2147483648 := by
  simp only [IntKind.wrap, IntKind.signed, IntKind.bits, Bool.true_and, ge_iff_le, decide_eq_true_eq]
  split <;> omega
theorem wrap_i16 (n : Int) : IntKind.i16.wrap n = (n + 32768) % 65536 - 32768 := by
  simp only [IntKind.wrap, IntKind.signed, IntKind.bits, Bool.true_and, ge_iff_le, decide_eq_true_eq]
  split <;> omega
theorem wrap_i8 (n : Int) : IntKind.i8.wrap n = (n + 128) % 256 - 128 := by
  simp only [IntKind.wrap, IntKind.signed, IntKind.bits, Bool.true_and, ge_iff_le, decide_eq_true_eq]
  split <;> omega
theorem i64_id {n : Int} (h : -9223372036854775808 ≤ n) (h' : n ≤ 9223372036854775807) : IntKind.i64.wrap n = n := by rw [wrap_i64]; omega
theorem u64_id {n : Int} (h : 0 ≤ n) (h' : n < 18446744073709551616) : IntKind.u64.wrap n = n := by rw [wrap_u64]; omega
theorem u8_id {n : Int} (h : 0 ≤ n) (h' : n < 256) : IntKind.u8.wrap n = n := by rw [wrap_u8]; omega

theorem wf_i64 {n : Int} (h : (IntKind.i64).min ≤ n ∧ n ≤ (IntKind.i64).max) : -9223372036854775808 ≤ n ∧ n ≤ 9223372036854775807 := by
  simpa [IntKind.min, IntKind.max, IntKind.signed, IntKind.bits] using h
theorem wf_u64 {n : Int} (h : (IntKind.u64).min ≤ n ∧ n ≤ (IntKind.u64).max) : 0 ≤ n ∧ n < 18446744073709551616 := by
  have : 0 ≤ n ∧ n ≤ 18446744073709551615 := by simpa [IntKind.min, IntKind.max, IntKind.signed, IntKind.bits] using h
  omega
theorem wf_u8 {n : Int} (h : (IntKind.u8).min ≤ n ∧ n ≤ (IntKind.u8).max) : 0 ≤ n ∧ n < 256 := by
  have : 0 ≤ n ∧ n ≤ 255 := by simpa [IntKind.min, IntKind.max, IntKind.signed, IntKind.bits] using h
  omega
theorem wf_u16 {n : Int} (h : (IntKind.u16).min ≤ n ∧ n ≤ (IntKind.u16).max) : 0 ≤ n ∧ n < 65536 := by
  have : 0 ≤ n ∧ n ≤ 65535 := by simpa [IntKind.min, IntKind.max, IntKind.signed, IntKind.bits] using h
  omega

theorem bv_nat {w : Nat} {x : Int} (h : 0 ≤ x) (h' : x < 2 ^ w) : (BitVec.ofInt w x).toNat = x.toNat := by
  rw [BitVec.toNat_ofInt]
  congr 1
  rw [Int.emod_eq_of_lt h]
  exact_mod_cast h'

theorem nat_lt {w : Nat} {x : Int} (h : 0 ≤ x) (h' : x < 2 ^ w) : x.toNat < 2 ^ w := by
  have : ((x.toNat : Nat) : Int) < ((2 ^ w : Nat) : Int) := by rw [Int.toNat_of_nonneg h]; exact_mod_cast h'
  exact_mod_cast this

theorem xor_u64 {x y : Int} (h : 0 ≤ x) (h' : x < 18446744073709551616) (k : 0 ≤ y) (k' : y < 18446744073709551616) : ibits .xor .u64 x y = ((x.toNat ^^^ y.toNat : Nat) : Int) := by
  show IntKind.u64.wrap (((BitVec.ofInt 64 x ^^^ BitVec.ofInt 64 y).toNat : Nat) : Int) = _
  rw [BitVec.toNat_xor, bv_nat h (by simpa using h'), bv_nat k (by simpa using k'), wrap_u64]
  have := Nat.xor_lt_two_pow (nat_lt (w := 64) h (by simpa using h')) (nat_lt (w := 64) k (by simpa using k'))
  omega
theorem and_u64 {x y : Int} (h : 0 ≤ x) (h' : x < 18446744073709551616) (k : 0 ≤ y) (k' : y < 18446744073709551616) : ibits .and .u64 x y = ((x.toNat &&& y.toNat : Nat) : Int) := by
  show IntKind.u64.wrap (((BitVec.ofInt 64 x &&& BitVec.ofInt 64 y).toNat : Nat) : Int) = _
  rw [BitVec.toNat_and, bv_nat h (by simpa using h'), bv_nat k (by simpa using k'), wrap_u64]
  have := Nat.and_lt_two_pow x.toNat (nat_lt (w := 64) k (by simpa using k'))
  omega
theorem or_u64 {x y : Int} (h : 0 ≤ x) (h' : x < 18446744073709551616) (k : 0 ≤ y) (k' : y < 18446744073709551616) : ibits .or .u64 x y = ((x.toNat ||| y.toNat : Nat) : Int) := by
  show IntKind.u64.wrap (((BitVec.ofInt 64 x ||| BitVec.ofInt 64 y).toNat : Nat) : Int) = _
  rw [BitVec.toNat_or, bv_nat h (by simpa using h'), bv_nat k (by simpa using k'), wrap_u64]
  have := Nat.or_lt_two_pow (nat_lt (w := 64) h (by simpa using h')) (nat_lt (w := 64) k (by simpa using k'))
  omega
theorem xor_u8 {x y : Int} (h : 0 ≤ x) (h' : x < 256) (k : 0 ≤ y) (k' : y < 256) : ibits .xor .u8 x y = ((x.toNat ^^^ y.toNat : Nat) : Int) := by
  show IntKind.u8.wrap (((BitVec.ofInt 8 x ^^^ BitVec.ofInt 8 y).toNat : Nat) : Int) = _
  rw [BitVec.toNat_xor, bv_nat h (by simpa using h'), bv_nat k (by simpa using k'), wrap_u8]
  have := Nat.xor_lt_two_pow (nat_lt (w := 8) h (by simpa using h')) (nat_lt (w := 8) k (by simpa using k'))
  omega
theorem or_u8 {x y : Int} (h : 0 ≤ x) (h' : x < 256) (k : 0 ≤ y) (k' : y < 256) : ibits .or .u8 x y = ((x.toNat ||| y.toNat : Nat) : Int) := by
  show IntKind.u8.wrap (((BitVec.ofInt 8 x ||| BitVec.ofInt 8 y).toNat : Nat) : Int) = _
  rw [BitVec.toNat_or, bv_nat h (by simpa using h'), bv_nat k (by simpa using k'), wrap_u8]
  have := Nat.or_lt_two_pow (nat_lt (w := 8) h (by simpa using h')) (nat_lt (w := 8) k (by simpa using k'))
  omega
theorem and_u8 {x y : Int} (h : 0 ≤ x) (h' : x < 256) (k : 0 ≤ y) (k' : y < 256) : ibits .and .u8 x y = ((x.toNat &&& y.toNat : Nat) : Int) := by
  show IntKind.u8.wrap (((BitVec.ofInt 8 x &&& BitVec.ofInt 8 y).toNat : Nat) : Int) = _
  rw [BitVec.toNat_and, bv_nat h (by simpa using h'), bv_nat k (by simpa using k'), wrap_u8]
  have := Nat.and_lt_two_pow x.toNat (nat_lt (w := 8) k (by simpa using k'))
  omega
/-- all ones -/
theorem xor_ones_u64 {x : Int} (h : 0 ≤ x) (h' : x < 18446744073709551616) : ibits .xor .u64 x 18446744073709551615 = 18446744073709551615 - x := by
  show IntKind.u64.wrap (((BitVec.ofInt 64 x ^^^ BitVec.ofInt 64 18446744073709551615).toNat : Nat) : Int) = _
  have e : BitVec.ofInt 64 18446744073709551615 = BitVec.allOnes 64 := by decide
  rw [e, BitVec.xor_allOnes, BitVec.toNat_not, bv_nat h (by simpa using h'), wrap_u64]
  omega
theorem xor_zero_u64 {x : Int} (h : 0 ≤ x) (h' : x < 18446744073709551616) : ibits .xor .u64 x 0 = x := by
  rw [xor_u64 h h' (by omega) (by omega)]
  simp; omega
theorem xor_zero_i64 {x : Int} (h : 0 ≤ x) (h' : x < 9223372036854775808) : ibits .xor .i64 x 0 = x := by
  show IntKind.i64.wrap (((BitVec.ofInt 64 x ^^^ BitVec.ofInt 64 0).toNat : Nat) : Int) = _
  have e : BitVec.ofInt 64 0 = 0#64 := by decide
  rw [e, BitVec.xor_zero, bv_nat h (by simp; omega), wrap_i64]
  omega
theorem xor_ones_i64 {x : Int} (h : 0 ≤ x) (h' : x < 9223372036854775808) : ibits .xor .i64 x (-1) = -x - 1 := by
  show IntKind.i64.wrap (((BitVec.ofInt 64 x ^^^ BitVec.ofInt 64 (-1)).toNat : Nat) : Int) = _
  have e : BitVec.ofInt 64 (-1) = BitVec.allOnes 64 := by decide
  rw [e, BitVec.xor_allOnes, BitVec.toNat_not, bv_nat h (by simp; omega), wrap_i64]
  omega
theorem and_one_u64 {x : Int} (h : 0 ≤ x) (h' : x < 18446744073709551616) : ibits .and .u64 x 1 = x % 2 := by
  rw [and_u64 h h' (by omega) (by omega)]
  have : (1 : Int).toNat = 1 := rfl
  rw [this, Nat.and_one_is_mod]
  omega

/-- ways that meet, and only differ in a truth or a number -/
theorem joinB {O : Type} {c x y : Bool} {σ : AH O} : (bif c then some ([AV.b x], σ) else some ([AV.b y], σ)) = some ([AV.b (bif c then x else y)], σ) := by cases c <;> rfl
theorem joinI {O : Type} {c : Bool} {k : IntKind} {x y : Int} {σ : AH O} : (bif c then some ([AV.i k x], σ) else some ([AV.i k y], σ)) = some ([AV.i k (bif c then x else y)], σ) := by cases c <;> rfl
theorem joinR {O : Type} {c x y : Bool} {σ : AH O} : (bif c then some (AV.b x, σ) else some (AV.b y, σ)) = some (AV.b (bif c then x else y), σ) := by cases c <;> rfl
@[simp] theorem asTup2 {a b : AV} : AV.asTup 2 (.tup [a, b]) = some [a, b] := rfl
@[simp] theorem asTup3 {a b c : AV} : AV.asTup 3 (.tup [a, b, c]) = some [a, b, c] := rfl
@[simp] theorem asTup4 {a b c d : AV} : AV.asTup 4 (.tup [a, b, c, d]) = some [a, b, c, d] := rfl
theorem or_one_u64 {x : Int} (h : 0 ≤ x) (h' : x < 18446744073709551616) (he : x % 2 = 0) : ibits .or .u64 x 1 = x + 1 := by
  rw [or_u64 h h' (by omega) (by omega)]
  have := Nat.two_pow_add_eq_or_of_lt (i := 1) (b := 1) (by omega) (x.toNat / 2)
  have e : 2 ^ 1 * (x.toNat / 2) = x.toNat := by omega
  rw [e] at this
  rw [show (1 : Int).toNat = 1 from rfl, ← this]; omega
theorem neI {a b : Int} : (a != b) = !(a == b) := rfl
theorem decNN {i : Nat} : decide ((0 : Int) ≤ (i : Int)) = true := by simp
theorem len0 {A : Type} {m : Option A} : (bif Nat.beq ([] : List AV).length 0 then m else none) = m := rfl
theorem len1 {A : Type} {m : Option A} {a : AV} : (bif Nat.beq [a].length 1 then m else none) = m := rfl
theorem len2 {A : Type} {m : Option A} {a b : AV} : (bif Nat.beq [a, b].length 2 then m else none) = m := rfl
theorem len3 {A : Type} {m : Option A} {a b c : AV} : (bif Nat.beq [a, b, c].length 3 then m else none) = m := rfl
theorem len4 {A : Type} {m : Option A} {a b c d : AV} : (bif Nat.beq [a, b, c, d].length 4 then m else none) = m := rfl
theorem len5 {A : Type} {m : Option A} {a b c d e : AV} : (bif Nat.beq [a, b, c, d, e].length 5 then m else none) = m := rfl
theorem get0 {a : AV} {l : List AV} : (a :: l).getD 0 .u = a := rfl
theorem get1 {a b : AV} {l : List AV} : (a :: b :: l).getD 1 .u = b := rfl
theorem get2 {a b c : AV} {l : List AV} : (a :: b :: c :: l).getD 2 .u = c := rfl
theorem get3 {a b c d : AV} {l : List AV} : (a :: b :: c :: d :: l).getD 3 .u = d := rfl
theorem get4 {a b c d e : AV} {l : List AV} : (a :: b :: c :: d :: e :: l).getD 4 .u = e := rfl
theorem get5 {a b c d e f : AV} {l : List AV} : (a :: b :: c :: d :: e :: f :: l).getD 5 .u = f := rfl

end Go.Abs
