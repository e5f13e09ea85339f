/-
  AbsBits: integers that fit, and their bits.
-/
import Derived.Test.YtlgnboohmahbaaaGreatAbsOk
set_option linter.unusedVariables false
set_option linter.unusedSimpArgs false
set_option linter.constructorNameAsVariable false
namespace Go.Abs
open Go
theorem wrap_u64 (n : Int) : IntKind.u64.wrap n = n % 18446744073709551616 := by simp [IntKind.wrap, IntKind.signed, IntKind.bits]
theorem wrap_u8 (n : Int) : IntKind.u8.wrap n = n % 256 := by simp [IntKind.wrap, IntKind.signed, IntKind.bits]
theorem wrap_i64 (n : Int) : IntKind.i64.wrap n = (n + 9223372036854775808) % 18446744073709551616 - 9223372036854775808 := by
 simp only [IntKind.wrap, IntKind.signed, IntKind.bits, Bool.true_and, ge_iff_le, decide_eq_true_eq]
 split <;> omega
theorem i64_id {n : Int} (h : -9223372036854775808 ≤ n) (h' : n ≤ 9223372036854775807) : IntKind.i64.wrap n = n := by rw [wrap_i64]; omega
theorem u64_id {n : Int} (h : 0 ≤ n) (h' : n < 18446744073709551616) : IntKind.u64.wrap n = n := by rw [wrap_u64]; omega
theorem u8_id {n : Int} (h : 0 ≤ n) (h' : n < 256) : IntKind.u8.wrap n = n := by rw [wrap_u8]; omega
theorem joinB {O : Type} {c x y : Bool} {σ : AH O} : (bif c then some ([AV.b x], σ) else some ([AV.b y], σ)) = some ([AV.b (bif c then x else y)], σ) := by cases c <;> rfl
theorem joinI {O : Type} {c : Bool} {k : IntKind} {x y : Int} {σ : AH O} : (bif c then some ([AV.i k x], σ) else some ([AV.i k y], σ)) = some ([AV.i k (bif c then x else y)], σ) := by cases c <;> rfl
theorem joinR {O : Type} {c x y : Bool} {σ : AH O} : (bif c then some (AV.b x, σ) else some (AV.b y, σ)) = some (AV.b (bif c then x else y), σ) := by cases c <;> rfl
@[simp] theorem asTup2 {a b : AV} : AV.asTup 2 (.tup [a, b]) = some [a, b] := rfl
@[simp] theorem asTup3 {a b c : AV} : AV.asTup 3 (.tup [a, b, c]) = some [a, b, c] := rfl
@[simp] theorem asTup4 {a b c d : AV} : AV.asTup 4 (.tup [a, b, c, d]) = some [a, b, c, d] := rfl
theorem neI {a b : Int} : (a != b) = !(a == b) := rfl
end Go.Abs
