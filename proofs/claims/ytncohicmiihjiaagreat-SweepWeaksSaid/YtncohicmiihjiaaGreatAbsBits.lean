/-
  AbsBits: integers that fit, and their bits.
-/
import Derived.Test.YtncohicmiihjiaaGreatAbsOk
set_option linter.unusedVariables false
set_option linter.unusedSimpArgs false
set_option linter.constructorNameAsVariable false
namespace Go.Abs
open Go
theorem tK (n:Int):IntKind.u64.wrap n=n % 18446744073709551616:=by simp [IntKind.wrap,IntKind.signed,IntKind.bits]
theorem wrap_u8 (n:Int):IntKind.u8.wrap n=n % 256:=by simp [IntKind.wrap,IntKind.signed,IntKind.bits]
theorem wrap_i64 (n:Int):IntKind.i64.wrap n=(n+9223372036854775808) % 18446744073709551616 - 9223372036854775808:=by
 simp only [IntKind.wrap,IntKind.signed,IntKind.bits,Bool.true_and,ge_iff_le,decide_eq_true_eq]
 split<;>omega
theorem Rt {n:Int} (h : -9223372036854775808<=n) (h':n<=9223372036854775807):IntKind.i64.wrap n=n:=by rw [wrap_i64];omega
theorem Ru {n:Int} (h:0<=n) (h':n<18446744073709551616):IntKind.u64.wrap n=n:=by rw [tK];omega
theorem V7 {n:Int} (h:0<=n) (h':n<256):IntKind.u8.wrap n=n:=by rw [wrap_u8];omega
theorem eK {w:Nat} {x:Int} (h:0<=x) (h':x<2 ^ w):(BitVec.ofInt w x).toNat=x.toNat:=by
 rw [BitVec.toNat_ofInt]
 congr 1
 rw [Int.emod_eq_of_lt h]
 exact_mod_cast h'
theorem B2 {w:Nat} {x:Int} (h:0<=x) (h':x<2 ^ w):x.toNat<2 ^ w:=by
 have:((x.toNat:Nat):Int)<((2 ^ w:Nat):Int):=by rw [Int.toNat_of_nonneg h];exact_mod_cast h'
 exact_mod_cast this
theorem MC {x y:Int} (h:0<=x) (h':x<18446744073709551616) (k:0<=y) (k':y<18446744073709551616):bG .and .u64 x y=((x.toNat &&& y.toNat:Nat):Int):=by
 show IntKind.u64.wrap (((BitVec.ofInt 64 x &&& BitVec.ofInt 64 y).toNat:Nat):Int)=_
 rw [BitVec.toNat_and,eK h (by simpa using h'),eK k (by simpa using k'),tK]
 have:=Nat.and_lt_two_pow x.toNat (B2 (w:=64) k (by simpa using k'))
 omega
theorem Rv {x y:Int} (h:0<=x) (h':x<18446744073709551616) (k:0<=y) (k':y<18446744073709551616):bG .or .u64 x y=((x.toNat ||| y.toNat:Nat):Int):=by
 show IntKind.u64.wrap (((BitVec.ofInt 64 x ||| BitVec.ofInt 64 y).toNat:Nat):Int)=_
 rw [BitVec.toNat_or,eK h (by simpa using h'),eK k (by simpa using k'),tK]
 have:=Nat.or_lt_two_pow (B2 (w:=64) h (by simpa using h')) (B2 (w:=64) k (by simpa using k'))
 omega
theorem zS {x:Int} (h:0<=x) (h':x<18446744073709551616):bG .and .u64 x 1=x % 2:=by
 rw [MC h h' (by omega) (by omega)]
 have:(1:Int).toNat=1:=rfl
 rw [this,Nat.and_one_is_mod]
 omega
theorem Px {O:Type} {c x y:Bool} {J:AH O}:(bif c then some ([AV.b x],J) else some ([AV.b y],J))=some ([AV.b (bif c then x else y)],J):=by cases c<;>rfl
theorem Py {O:Type} {c:Bool} {k:IntKind} {x y:Int} {J:AH O}:(bif c then some ([AV.i k x],J) else some ([AV.i k y],J))=some ([AV.i k (bif c then x else y)],J):=by cases c<;>rfl
theorem Pz {O:Type} {c x y:Bool} {J:AH O}:(bif c then some (AV.b x,J) else some (AV.b y,J))=some (AV.b (bif c then x else y),J):=by cases c<;>rfl
@[simp] theorem afl {a b:AV}:AV.ay 2 (.aB [a,b])=some [a,b]:=rfl
@[simp] theorem afm {a b c:AV}:AV.ay 3 (.aB [a,b,c])=some [a,b,c]:=rfl
@[simp] theorem afn {a b c d:AV}:AV.ay 4 (.aB [a,b,c,d])=some [a,b,c,d]:=rfl
theorem B3 {x:Int} (h:0<=x) (h':x<18446744073709551616) (he:x % 2=0):bG .or .u64 x 1=x+1:=by
 rw [Rv h h' (by omega) (by omega)]
 have:=Nat.two_pow_add_eq_or_of_lt (i:=1) (b:=1) (by omega) (x.toNat / 2)
 have e:2 ^ 1*(x.toNat / 2)=x.toNat:=by omega
 rw [e] at this
 rw [show (1:Int).toNat=1 from rfl,<-this];omega
theorem neI {a b:Int}:(a != b) = !(a == b):=rfl
theorem afo {A:Type} {m:Option A} {a:AV}:(bif Nat.beq [a].length 1 then m else none)=m:=rfl
theorem afp {A:Type} {m:Option A} {a b:AV}:(bif Nat.beq [a,b].length 2 then m else none)=m:=rfl
end Go.Abs
