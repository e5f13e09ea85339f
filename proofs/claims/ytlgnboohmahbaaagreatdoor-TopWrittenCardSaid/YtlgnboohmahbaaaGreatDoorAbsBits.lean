/-
  AbsBits: integers that fit, and their bits.
-/
import Derived.Test.YtlgnboohmahbaaaGreatDoorAbsOk
set_option linter.unusedVariables false
set_option linter.unusedSimpArgs false
set_option linter.constructorNameAsVariable false
namespace Go.Abs
open Go
theorem wrap_u64 (n:Int):IntKind.u64.wrap n=n % 18446744073709551616:=by simp [IntKind.wrap,IntKind.signed,IntKind.bits]
theorem wrap_u8 (n:Int):IntKind.u8.wrap n=n % 256:=by simp [IntKind.wrap,IntKind.signed,IntKind.bits]
theorem wrap_i64 (n:Int):IntKind.i64.wrap n=(n+9223372036854775808) % 18446744073709551616 - 9223372036854775808:=by
 simp only [IntKind.wrap,IntKind.signed,IntKind.bits,Bool.true_and,ge_iff_le,decide_eq_true_eq]
 split<;>omega
theorem bJ {n:Int} (h : -9223372036854775808 ≤ n) (h':n ≤ 9223372036854775807):IntKind.i64.wrap n=n:=by rw [wrap_i64];omega
theorem uY {n:Int} (h:0 ≤ n) (h':n<18446744073709551616):IntKind.u64.wrap n=n:=by rw [wrap_u64];omega
theorem aae {n:Int} (h:0 ≤ n) (h':n<256):IntKind.u8.wrap n=n:=by rw [wrap_u8];omega
theorem pM {w:Nat} {x:Int} (h:0 ≤ x) (h':x<2 ^ w):(BitVec.ofInt w x).toNat=x.toNat:=by
 rw [BitVec.toNat_ofInt]
 congr 1
 rw [Int.emod_eq_of_lt h]
 exact_mod_cast h'
theorem EW {w:Nat} {x:Int} (h:0 ≤ x) (h':x<2 ^ w):x.toNat<2 ^ w:=by
 have:((x.toNat:Nat):Int)<((2 ^ w:Nat):Int):=by rw [Int.toNat_of_nonneg h];exact_mod_cast h'
 exact_mod_cast this
theorem Qq {x y:Int} (h:0 ≤ x) (h':x<18446744073709551616) (k:0 ≤ y) (k':y<18446744073709551616):bE .xor .u64 x y=((x.toNat ^^^ y.toNat:Nat):Int):=by
 show IntKind.u64.wrap (((BitVec.ofInt 64 x ^^^ BitVec.ofInt 64 y).toNat:Nat):Int)=_
 rw [BitVec.toNat_xor,pM h (by simpa using h'),pM k (by simpa using k'),wrap_u64]
 have:=Nat.xor_lt_two_pow (EW (w:=64) h (by simpa using h')) (EW (w:=64) k (by simpa using k'))
 omega
theorem adg {x y:Int} (h:0 ≤ x) (h':x<18446744073709551616) (k:0 ≤ y) (k':y<18446744073709551616):bE .and .u64 x y=((x.toNat &&& y.toNat:Nat):Int):=by
 show IntKind.u64.wrap (((BitVec.ofInt 64 x &&& BitVec.ofInt 64 y).toNat:Nat):Int)=_
 rw [BitVec.toNat_and,pM h (by simpa using h'),pM k (by simpa using k'),wrap_u64]
 have:=Nat.and_lt_two_pow x.toNat (EW (w:=64) k (by simpa using k'))
 omega
theorem aaf {x y:Int} (h:0 ≤ x) (h':x<18446744073709551616) (k:0 ≤ y) (k':y<18446744073709551616):bE .or .u64 x y=((x.toNat ||| y.toNat:Nat):Int):=by
 show IntKind.u64.wrap (((BitVec.ofInt 64 x ||| BitVec.ofInt 64 y).toNat:Nat):Int)=_
 rw [BitVec.toNat_or,pM h (by simpa using h'),pM k (by simpa using k'),wrap_u64]
 have:=Nat.or_lt_two_pow (EW (w:=64) h (by simpa using h')) (EW (w:=64) k (by simpa using k'))
 omega
theorem aky {x y:Int} (h:0 ≤ x) (h':x<256) (k:0 ≤ y) (k':y<256):bE .or .u8 x y=((x.toNat ||| y.toNat:Nat):Int):=by
 show IntKind.u8.wrap (((BitVec.ofInt 8 x ||| BitVec.ofInt 8 y).toNat:Nat):Int)=_
 rw [BitVec.toNat_or,pM h (by simpa using h'),pM k (by simpa using k'),wrap_u8]
 have:=Nat.or_lt_two_pow (EW (w:=8) h (by simpa using h')) (EW (w:=8) k (by simpa using k'))
 omega
theorem Qr {x:Int} (h:0 ≤ x) (h':x<18446744073709551616):bE .xor .u64 x 0=x:=by
 rw [Qq h h' (by omega) (by omega)]
 simp;omega
theorem agH {O:Type} {c x y:Bool} {σ:AH O}:(bif c then some ([AV.b x],σ) else some ([AV.b y],σ))=some ([AV.b (bif c then x else y)],σ):=by cases c<;>rfl
theorem agI {O:Type} {c:Bool} {k:IntKind} {x y:Int} {σ:AH O}:(bif c then some ([AV.i k x],σ) else some ([AV.i k y],σ))=some ([AV.i k (bif c then x else y)],σ):=by cases c<;>rfl
theorem agJ {O:Type} {c x y:Bool} {σ:AH O}:(bif c then some (AV.b x,σ) else some (AV.b y,σ))=some (AV.b (bif c then x else y),σ):=by cases c<;>rfl
@[simp] theorem ao6 {a b:AV}:AV.aE 2 (.aS [a,b])=some [a,b]:=rfl
@[simp] theorem ao7 {a b c:AV}:AV.aE 3 (.aS [a,b,c])=some [a,b,c]:=rfl
@[simp] theorem ao8 {a b c d:AV}:AV.aE 4 (.aS [a,b,c,d])=some [a,b,c,d]:=rfl
theorem neI {a b:Int}:(a != b) = !(a == b):=rfl
end Go.Abs
