/-
  Layers 11 and 12: fields of words, headers. No conditions.
-/
import Derived.Test.YtlgnboohmahbaaaGreatDoorS13a
import Derived.Test.YtlgnboohmahbaaaGreatDoorAbsSim
import Derived.Test.YtlgnboohmahbaaaGreatDoorAbsArgs
import Derived.Test.YtlgnboohmahbaaaGreatDoorAbsSl
import Derived.Test.YtlgnboohmahbaaaGreatDoorAbsNat
import Derived.Test.YtlgnboohmahbaaaGreatDoorAbsBits
import Derived.Test.YtlgnboohmahbaaaGreatDoorI4
set_option linter.unusedVariables false
set_option linter.unusedSimpArgs false
set_option linter.constructorNameAsVariable false
set_option linter.unusedSimpArgs false
set_option linter.unusedVariables false
set_option linter.unusedSectionVars false
set_option maxHeartbeats 1000000
namespace Go.Abs.Tryz
open Go Go.Abs
variable {O:Type}
def Vm (a s:Nat):Int:=(((2 ^ s - 1)*2 ^ a:Nat):Int)
theorem abq:∀ s:Fin 65,∀ a:Fin 65,1 ≤ s.val → a.val+s.val ≤ 64 → IntKind.u64.wrap (Int.fdiv 18446744073709551615 (2 ^ min ((64:Int) - (s.val:Int)).toNat 64)*2 ^ min (a.val:Int).toNat 64)=Vm a.val s.val:=by decide +kernel
theorem ad8 {a s:Nat} (hs:1 ≤ s):Vm a s≠0:=by
 unfold Vm
 have h1:2 ≤ 2 ^ s:=by
  calc 2=2 ^ 1:=rfl
   _ ≤ 2 ^ s:=Nat.pow_le_pow_right (by decide) hs
 have h2:1 ≤ 2 ^ a:=Nat.one_le_two_pow
 have:1*1 ≤ (2 ^ s - 1)*2 ^ a:=Nat.mul_le_mul (by omega) h2
 omega
theorem IC {a s:Nat} (σ:AH O) (h1:1 ≤ s) (h2:a+s ≤ 64):Ok (lq [.agg [.i .i64 (a:Int),.i .i64 (s:Int)]] σ) fun r=>r.1=.b true ∧ Ext σ r.2:=by
 simp (maxSteps:=2000000) -implicitDefEqProofs (disch:=(first |omega |rfl |assumption |(simp only [aK];first |omega |assumption))) only [lq,vc,ge_iff_le,Nat.reduceAdd,Nat.reduceMul,Nat.reduceLT,Int.reduceToNat,Int.reduceAdd,Int.reduceSub,Int.reduceMul,aB,aX]
 exact U.2 ⟨by simp,(ep (by simp only [gK,bg,gR];omega) (fun b hb=>by simp -implicitDefEqProofs (disch:=(first |omega |rfl |assumption |(simp only [aK];first |omega |assumption))) only [bu,iI,bd,dX]))⟩
theorem Mz {a s:Nat} (σ:AH O) (h1:1 ≤ s) (h2:a+s ≤ 64):Ok (oc [.agg [.i .i64 (a:Int),.i .i64 (s:Int)]] σ) fun r=>r.1=.i .u64 (Vm a s) ∧ Ext σ r.2:=by
 simp (maxSteps:=2000000) -implicitDefEqProofs (disch:=(first |omega |rfl |assumption |(simp only [aK];first |omega |assumption))) only [oc,yw,Nat.reduceAdd,Nat.reduceMul,Nat.reduceLT,Int.reduceToNat,Int.reduceAdd,Int.reduceSub,Int.reduceMul,aB,aX]
 refine Ok.step (IC _ h1 h2) fun r ⟨g1,g2⟩=>?_
 obtain ⟨q,aJ⟩:=r
 simp only at g1 g2
 subst g1
 have hb:aJ.ai σ.next=some (.cells true 144 [.i .i64 (a:Int),.i .i64 (s:Int)]):=(g2.ai _ (by simp)).trans cH
 simp (maxSteps:=2000000) -implicitDefEqProofs (disch:=(first |omega |rfl |assumption |(simp only [aK];first |omega |assumption))) only [hb,Nat.reduceAdd,Nat.reduceMul,Nat.reduceLT,Int.reduceToNat,Int.reduceAdd,Int.reduceSub,Int.reduceMul,aB,aX]
 have hv:=abq ⟨s,by omega⟩ ⟨a,by omega⟩ h1 h2
 simp only at hv
 exact U.2 ⟨by rw [← hv];simp,(ep (by (have x0:=(g2).next);(try simp only [aK] at *);omega) (fun b hb=>by (have x0:=(g2).next);(try simp only [aK] at *);simp -implicitDefEqProofs (disch:=(first |omega |rfl |assumption |(simp only [aK];first |omega |assumption))) only [bu,iI,bd,dX (g2)]))⟩
def bl (n:Nat):Nat:=if n=0 then 0 else Nat.log2 n+1
theorem ahl {n k:Nat} (h:n<2 ^ k):bl n ≤ k:=by
 unfold bl
 split
 ·omega
 ·rename_i h0
  exact (Nat.log2_lt h0).2 h
theorem abr:∀ i:Fin 256,(([0,1,2,2,3,3,3,3,4,4,4,4,4,4,4,4,5,5,5,5,5,5,5,5,5,5,5,5,5,5,5,5,6,6,6,6,6,6,6,6,6,6,6,6,6,6,6,6,6,6,6,6,6,6,6,6,6,6,6,6,6,6,6,6,7,7,7,7,7,7,7,7,7,7,7,7,7,7,7,7,7,7,7,7,7,7,7,7,7,7,7,7,7,7,7,7,7,7,7,7,7,7,7,7,7,7,7,7,7,7,7,7,7,7,7,7,7,7,7,7,7,7,7,7,7,7,7,7,8,8,8,8,8,8,8,8,8,8,8,8,8,8,8,8,8,8,8,8,8,8,8,8,8,8,8,8,8,8,8,8,8,8,8,8,8,8,8,8,8,8,8,8,8,8,8,8,8,8,8,8,8,8,8,8,8,8,8,8,8,8,8,8,8,8,8,8,8,8,8,8,8,8,8,8,8,8,8,8,8,8,8,8,8,8,8,8,8,8,8,8,8,8,8,8,8,8,8,8,8,8,8,8,8,8,8,8,8,8,8,8,8,8,8,8,8,8,8,8,8,8,8,8,8,8,8,8]:List UInt8)[i.val]?)=some (UInt8.ofNat (bl i.val)):=by decide +kernel
theorem ahm {n:Nat} (h:n<256):bl n ≤ 8:=ahl (k:=8) h
theorem aiz {n:Nat} (h:256 ≤ n) (h':n<65536):bl (n / 256)+8=bl n:=by
 unfold bl
 rw [if_neg (by omega),if_neg (by omega)]
 have e:n / 256=n >>> 8:=by rw [Nat.shiftRight_eq_div_pow]
 have h1:Nat.log2 n=Nat.log2 (n / 256)+8:=by
  have l0:n / 256≠0:=by omega
  have l1:=(Nat.log2_lt (k:=Nat.log2 (n / 256)+1) l0).1 (by omega)
  have l2:2 ^ Nat.log2 (n / 256) ≤ n / 256:=Nat.log2_self_le l0
  have l3:n<2 ^ (Nat.log2 (n / 256)+8+1):=by
   have:2 ^ (Nat.log2 (n / 256)+8+1)=2 ^ (Nat.log2 (n / 256)+1)*256:=by rw [show Nat.log2 (n / 256)+8+1=Nat.log2 (n / 256)+1+8 by omega,Nat.pow_add]
   rw [this]
   omega
  have l4:2 ^ (Nat.log2 (n / 256)+8) ≤ n:=by
   rw [Nat.pow_add]
   have:2 ^ Nat.log2 (n / 256)*2 ^ 8 ≤ n / 256*256:=Nat.mul_le_mul l2 (Nat.le_refl _)
   omega
  have l5:=(Nat.log2_lt (n:=n) (by omega)).2 l3
  have l6:=(Nat.le_log2 (n:=n) (by omega)).2 l4
  omega
 omega
set_option maxRecDepth 100000 in
theorem aiA {n:Nat} (σ:AH O) (h:n<65536):oe [.i .u64 (n:Int)] σ=some (.i .i64 (bl n:Int),σ):=by
 by_cases hn:n<256
 ·have ht:=abr ⟨n,hn⟩
  simp only at ht
  have hb:=ahm hn
  have e1:(IntKind.u8.wrap (n:Int)).toNat=n:=by rw [adJ (by omega)];simp
  have e2:((UInt8.ofNat (bl n)).toNat:Int)=bl n:=by simp;omega
  simp (maxSteps:=2000000) -implicitDefEqProofs (disch:=(first |omega |rfl |assumption |(simp only [aK];first |omega |assumption))) only [oe,rk,e1,ht,e2,Nat.reduceAdd,Nat.reduceMul,Nat.reduceLT,Int.reduceToNat,Int.reduceAdd,Int.reduceSub,Int.reduceMul,aB,aX]
  simp
 ·have bS:n / 256<256:=by omega
  have ht:=abr ⟨n / 256,bS⟩
  simp only at ht
  have hb:=ahm bS
  have e0:Int.fdiv (n:Int) (2 ^ 8)=((n / 256:Nat):Int):=by rw [Int.fdiv_eq_ediv_of_nonneg _ (by decide)];rfl
  have e1:(IntKind.u8.wrap ((n / 256:Nat):Int)).toNat=n / 256:=by rw [adJ (by omega),Int.toNat_natCast]
  have e2:((UInt8.ofNat (bl (n / 256))).toNat:Int)=bl (n / 256):=by simp;omega
  have e3:=aiz (by omega) h
  simp (maxSteps:=2000000) -implicitDefEqProofs (disch:=(first |omega |rfl |assumption |(simp only [aK];first |omega |assumption))) only [oe,rk,e0,e1,ht,e2,Nat.reduceAdd,Nat.reduceMul,Nat.reduceLT,Int.reduceToNat,Int.reduceAdd,Int.reduceSub,Int.reduceMul,aB,aX]
  simp;omega
theorem abt {w n a s:Nat} (h1:1 ≤ s) (h2:a+s ≤ 64) (hw:w<2 ^ a) (hn:n<2 ^ s):bE .or .u64 (bE .andNot .u64 (w:Int) (Vm a s)) (IntKind.u64.wrap ((n:Int)*2 ^ min (a:Int).toNat 64))=((w+n*2 ^ a:Nat):Int):=by
 have pa:2 ^ a*2 ^ s ≤ 2 ^ 64:=by rw [← Nat.pow_add];exact Nat.pow_le_pow_right (by decide) h2
 have ps:1 ≤ 2 ^ s:=Nat.one_le_two_pow
 have p0:1 ≤ 2 ^ a:=Nat.one_le_two_pow
 have w64:w<2 ^ 64:=Nat.lt_of_lt_of_le hw (Nat.pow_le_pow_right (by decide) (by omega))
 have Z6:n*2 ^ a<2 ^ 64:=by
  have:n*2 ^ a<2 ^ s*2 ^ a:=Nat.mul_lt_mul_of_pos_right hn (by omega)
  rw [Nat.mul_comm (2 ^ s)] at this
  omega
 have m64:(2 ^ s - 1)*2 ^ a<2 ^ 64:=by
  have:(2 ^ s - 1)*2 ^ a<2 ^ s*2 ^ a:=Nat.mul_lt_mul_of_pos_right (by omega) (by omega)
  rw [Nat.mul_comm (2 ^ s)] at this
  omega
 have s64:w+n*2 ^ a<2 ^ 64:=by
  have h3:(n+1)*2 ^ a ≤ 2 ^ s*2 ^ a:=Nat.mul_le_mul (by omega) (Nat.le_refl _)
  rw [Nat.mul_comm (2 ^ s),Nat.add_mul] at h3
  omega
 have e1:bE .andNot .u64 (w:Int) (Vm a s)=(w:Int):=by
  show IntKind.u64.wrap (((BitVec.ofInt 64 (w:Int) &&& ~~~BitVec.ofInt 64 (Vm a s)).toNat:Nat):Int)=_
  have:(BitVec.ofInt 64 (w:Int) &&& ~~~BitVec.ofInt 64 (Vm a s))=BitVec.ofNat 64 w:=by
   unfold Vm
   rw [BitVec.ofInt_natCast,BitVec.ofInt_natCast]
   apply BitVec.eq_of_getLsbD_eq
   intro i hi
   simp only [BitVec.getLsbD_and,BitVec.getLsbD_not,BitVec.getLsbD_ofNat,hi,decide_true,Bool.true_and]
   by_cases hia:i<a
   ·have:((2 ^ s - 1)*2 ^ a).testBit i=false:=by
     rw [Nat.testBit_mul_two_pow];simp;omega
    rw [this];simp
   ·have:w.testBit i=false:=Nat.testBit_lt_two_pow (Nat.lt_of_lt_of_le hw (Nat.pow_le_pow_right (by decide) (by omega)))
    rw [this];simp
  rw [this,BitVec.toNat_ofNat,Nat.mod_eq_of_lt w64]
  exact PG (by omega)
 have e2:IntKind.u64.wrap ((n:Int)*2 ^ min (a:Int).toNat 64)=((n*2 ^ a:Nat):Int):=by
  rw [Int.toNat_natCast,Nat.min_eq_left (by omega)]
  have:((n:Int)*2 ^ a)=((n*2 ^ a:Nat):Int):=by simp
  rw [this]
  exact PG (by omega)
 rw [e1,e2]
 show IntKind.u64.wrap (((BitVec.ofInt 64 (w:Int) ||| BitVec.ofInt 64 ((n*2 ^ a:Nat):Int)).toNat:Nat):Int)=_
 rw [BitVec.toNat_or,pM (by omega) (by omega),pM (by omega) (by omega),Int.toNat_natCast,Int.toNat_natCast]
 have e3:=Nat.two_pow_add_eq_or_of_lt (i:=a) (b:=w) hw n
 have e4:w ||| n*2 ^ a=w+n*2 ^ a:=by rw [Nat.or_comm,Nat.mul_comm n,← e3,Nat.add_comm]
 rw [e4]
 exact PG ⟨Int.natCast_nonneg _,by omega⟩
theorem aea {w n a s:Nat} (σ:AH O) (h1:1 ≤ s) (h2:a+s ≤ 64) (h3:s ≤ 16) (hw:w<2 ^ a) (hn:n<2 ^ s):Ok (wL [.i .u64 (w:Int),.agg [.i .i64 (a:Int),.i .i64 (s:Int)],.i .u64 (n:Int)] σ) fun r=>r.1=.aS [.i .u64 ((w+n*2 ^ a:Nat):Int),.i .i64 0] ∧ Ext σ r.2:=by
 have hl:n<65536:=Nat.lt_of_lt_of_le hn (Nat.pow_le_pow_right (n:=2) (by decide) h3)
 have hbl:=ahl hn
 simp (maxSteps:=2000000) -implicitDefEqProofs (disch:=(first |omega |rfl |assumption |(simp only [aK];first |omega |assumption))) only [wL,BX,Nat.reduceAdd,Nat.reduceMul,Nat.reduceLT,Int.reduceToNat,Int.reduceAdd,Int.reduceSub,Int.reduceMul,aB,aX]
 refine Ok.step (IC _ h1 h2) fun r ⟨g1,g2⟩=>?_
 obtain ⟨q,aJ⟩:=r
 simp only at g1 g2
 subst g1
 have hb:aJ.ai σ.next=some (.cells true 144 [.i .i64 (a:Int),.i .i64 (s:Int)]):=(g2.ai _ (by simp)).trans cH
 simp (maxSteps:=2000000) -implicitDefEqProofs (disch:=(first |omega |rfl |assumption |(simp only [aK];first |omega |assumption))) only [hb,aiA aJ hl,Nat.reduceAdd,Nat.reduceMul,Nat.reduceLT,Int.reduceToNat,Int.reduceAdd,Int.reduceSub,Int.reduceMul,aB,aX]
 refine Ok.step (Mz _ h1 h2) fun r ⟨k1,k2⟩=>?_
 obtain ⟨q,aP⟩:=r
 simp only at k1 k2
 subst k1
 have Dm:aP.ai σ.next=some (.cells true 144 [.i .i64 (a:Int),.i .i64 (s:Int)]):=(k2.ai _ (by have:=g2.next;simp only [aK] at this;omega)).trans hb
 simp (maxSteps:=2000000) -implicitDefEqProofs (disch:=(first |omega |rfl |assumption |(simp only [aK];first |omega |assumption))) only [Dm,Nat.reduceAdd,Nat.reduceMul,Nat.reduceLT,Int.reduceToNat,Int.reduceAdd,Int.reduceSub,Int.reduceMul,aB,aX]
 exact U.2 ⟨by have hp:=abt h1 h2 hw hn;rw [Int.toNat_natCast] at hp;rw [hp],(ep (by (have x0:=(g2).next);(have x1:=(k2).next);(try simp only [aK] at *);omega) (fun b hb=>by (have x0:=(g2).next);(have x1:=(k2).next);(try simp only [aK] at *);simp -implicitDefEqProofs (disch:=(first |omega |rfl |assumption |(simp only [aK];first |omega |assumption))) only [bu,iI,bd,dX (g2),dX (k2)]))⟩
theorem abu {w a s:Nat} (h2:a+s ≤ 64) (hw:w<2 ^ 64):Int.fdiv (bE .and .u64 (w:Int) (Vm a s)) (2 ^ min (a:Int).toNat 64)=((w / 2 ^ a % 2 ^ s:Nat):Int):=by
 have pa:2 ^ a*2 ^ s ≤ 2 ^ 64:=by rw [← Nat.pow_add];exact Nat.pow_le_pow_right (by decide) h2
 have ps:1 ≤ 2 ^ s:=Nat.one_le_two_pow
 have p0:1 ≤ 2 ^ a:=Nat.one_le_two_pow
 have m64:(2 ^ s - 1)*2 ^ a<2 ^ 64:=by
  have:(2 ^ s - 1)*2 ^ a<2 ^ s*2 ^ a:=Nat.mul_lt_mul_of_pos_right (by omega) (by omega)
  rw [Nat.mul_comm (2 ^ s)] at this
  omega
 have e1:bE .and .u64 (w:Int) (Vm a s)=((w / 2 ^ a % 2 ^ s*2 ^ a:Nat):Int):=by
  show IntKind.u64.wrap (((BitVec.ofInt 64 (w:Int) &&& BitVec.ofInt 64 (Vm a s)).toNat:Nat):Int)=_
  unfold Vm
  rw [BitVec.toNat_and,pM (by omega) (by omega),pM (by omega) (by omega),Int.toNat_natCast,Int.toNat_natCast]
  have e2:w &&& (2 ^ s - 1)*2 ^ a=w / 2 ^ a % 2 ^ s*2 ^ a:=by
   apply Nat.eq_of_testBit_eq
   intro i
   rw [Nat.testBit_and,Nat.testBit_mul_two_pow,Nat.testBit_mul_two_pow,Nat.testBit_mod_two_pow,Nat.testBit_div_two_pow,Nat.testBit_two_pow_sub_one]
   by_cases hi:a ≤ i
   ·simp only [hi,decide_true,Bool.true_and]
    rw [show i - a+a=i by omega,Bool.and_comm]
   ·simp [hi]
  rw [e2]
  have h4:w / 2 ^ a % 2 ^ s*2 ^ a ≤ w:=by
   have h5:w / 2 ^ a % 2 ^ s*2 ^ a ≤ w / 2 ^ a*2 ^ a:=Nat.mul_le_mul (Nat.mod_le _ _) (Nat.le_refl _)
   have h6:=Nat.div_mul_le_self w (2 ^ a)
   omega
  exact PG ⟨Int.natCast_nonneg _,by omega⟩
 rw [e1,Int.toNat_natCast,Nat.min_eq_left (by omega)]
 have e3:((2:Int) ^ a)=((2 ^ a:Nat):Int):=by simp
 rw [e3,Int.fdiv_eq_ediv_of_nonneg _ (Int.natCast_nonneg _),← Int.natCast_ediv,Nat.mul_div_cancel _ (by omega)]
theorem aeb {w a s:Nat} (σ:AH O) (h1:1 ≤ s) (h2:a+s ≤ 64) (hw:w<2 ^ 64):Ok (wM [.i .u64 (w:Int),.agg [.i .i64 (a:Int),.i .i64 (s:Int)]] σ) fun r=>r.1=.i .u64 ((w / 2 ^ a % 2 ^ s:Nat):Int) ∧ Ext σ r.2:=by
 simp (maxSteps:=2000000) -implicitDefEqProofs (disch:=(first |omega |rfl |assumption |(simp only [aK];first |omega |assumption))) only [wM,BZ,Nat.reduceAdd,Nat.reduceMul,Nat.reduceLT,Int.reduceToNat,Int.reduceAdd,Int.reduceSub,Int.reduceMul,aB,aX]
 refine Ok.step (IC _ h1 h2) fun r ⟨g1,g2⟩=>?_
 obtain ⟨q,aJ⟩:=r
 simp only at g1 g2
 subst g1
 have hb:aJ.ai σ.next=some (.cells true 144 [.i .i64 (a:Int),.i .i64 (s:Int)]):=(g2.ai _ (by simp)).trans cH
 simp (maxSteps:=2000000) -implicitDefEqProofs (disch:=(first |omega |rfl |assumption |(simp only [aK];first |omega |assumption))) only [hb,Nat.reduceAdd,Nat.reduceMul,Nat.reduceLT,Int.reduceToNat,Int.reduceAdd,Int.reduceSub,Int.reduceMul,aB,aX]
 refine Ok.step (Mz _ h1 h2) fun r ⟨k1,k2⟩=>?_
 obtain ⟨q,aP⟩:=r
 simp only at k1 k2
 subst k1
 have Dm:aP.ai σ.next=some (.cells true 144 [.i .i64 (a:Int),.i .i64 (s:Int)]):=(k2.ai _ (by have:=g2.next;simp only [aK] at this;omega)).trans hb
 simp (maxSteps:=2000000) -implicitDefEqProofs (disch:=(first |omega |rfl |assumption |(simp only [aK];first |omega |assumption))) only [Dm,Nat.reduceAdd,Nat.reduceMul,Nat.reduceLT,Int.reduceToNat,Int.reduceAdd,Int.reduceSub,Int.reduceMul,aB,aX]
 exact U.2 ⟨by have hp:=abu (s:=s) h2 hw;rw [Int.toNat_natCast] at hp;rw [hp],(ep (by (have x0:=(g2).next);(have x1:=(k2).next);(try simp only [aK] at *);omega) (fun b hb=>by (have x0:=(g2).next);(have x1:=(k2).next);(try simp only [aK] at *);simp -implicitDefEqProofs (disch:=(first |omega |rfl |assumption |(simp only [aK];first |omega |assumption))) only [bu,iI,bd,dX (g2),dX (k2)]))⟩
def FA:List (Nat × Nat):=[(0,12),(12,12),(24,5),(29,3),(32,1),(62,1)]
def FC (l:List (Nat × Nat)):List AV:=l.flatMap fun x=>[.i .i64 (x.1:Int),.i .i64 (x.2:Int)]
def PY (σ:AH O) (a:SA):Prop:=∃ b el,a=.loc (.n b) 0 2 ∧ σ.ai b=some (.cells true el (FC FA)) ∧ b<σ.next
theorem PY.ext {σ aj:AH O} {a:SA} (h:PY σ a) (e:Ext σ aj):PY aj a:=by
 obtain ⟨b,el,h1,h2,h3⟩:=h
 exact ⟨b,el,h1,(e.ai _ h3).trans h2,Nat.lt_of_lt_of_le h3 e.next⟩
theorem PZ (σ:AH O):Ok (j0 [] σ) fun r=>∃ a,r.1=.sl a 6 ∧ PY r.2 a ∧ Ext σ r.2 ∧ ∀ b∈SA.bk a,σ.next ≤ b:=by
 simp (maxSteps:=2000000) -implicitDefEqProofs (disch:=(first |omega |rfl |assumption |(simp only [aK];first |omega |assumption))) only [j0,pU,Nat.reduceAdd,Nat.reduceMul,Nat.reduceLT,Int.reduceToNat,Int.reduceAdd,Int.reduceSub,Int.reduceMul,aB,aX]
 have step:Ok (aQ (jl 12 12 5 3 1) ([.sl .nil 0,.i .i64 0,.i .i64 0],(σ.bump 1).put σ.next (.cells true 146 [.i .i64 12,.i .i64 12,.i .i64 5,.i .i64 3,.i .i64 1]))) fun r=>∃ a,r.1=[.sl a 5] ∧ aN r.2 144 2 a 5 (FC (FA.take 5)) ∧ Ext σ r.2 ∧ ∀ b∈SA.bk a,σ.next ≤ b:=by
  refine Ok.count 5 (fun k s=>∃ a,s.1=[.sl a k,.i .i64 ((((FA.take 5)[k]?).getD (33,0)).1:Int),.i .i64 (k:Int)] ∧ aN s.2 144 2 a k (FC (FA.take k)) ∧ Ext σ s.2 ∧ ∀ b∈SA.bk a,σ.next ≤ b) ?_ ?_ ?_
  ·rintro k ⟨_,aJ⟩ hk ⟨a,rfl,o,e,hb⟩
   have bS:=o.lt
   rcases (by omega:k=0 ∨ k=1 ∨ k=2 ∨ k=3 ∨ k=4) with rfl |rfl |rfl |rfl |rfl
   all_goals
    simp only [FA,FC,List.take_succ_cons,List.take_zero,List.flatMap_cons,List.flatMap_nil,List.append_nil,List.cons_append,List.nil_append,List.getElem?_cons_zero,List.getElem?_cons_succ,List.getElem?_nil,Option.getD_none,Option.getD_some] at o ⊢
    simp (maxSteps:=2000000) -implicitDefEqProofs (disch:=(first |omega |rfl |assumption |(simp only [aK];first |omega |assumption))) only [jl,Nat.reduceLeDiff,Nat.reduceAdd,Nat.reduceMul,Nat.reduceLT,Int.reduceToNat,Int.reduceAdd,Int.reduceSub,Int.reduceMul,aB,aX]
    refine Ok.step (nW (nid:=aJ.next+1) (aN.of o (by simp) (fun b oP=>by have:=bS b oP;simp only at this;simp -implicitDefEqProofs (disch:=omega) only [bu,cH,iI,bd])) (fun h=>by have:=bS _ h;simp only at this;omega) (by simp) rfl) fun r ⟨a',g1,g2,g3,g4,g5⟩=>?_
    obtain ⟨q,aP⟩:=r
    simp only at g1 g2 g3 g4
    subst g1
    have e1:=e.next
    simp only [aK] at g3 e1
    simp (maxSteps:=2000000) -implicitDefEqProofs (disch:=(first |omega |rfl |assumption |(simp only [aK];first |omega |assumption))) only [Nat.reduceAdd,Nat.reduceMul,Nat.reduceLT,Int.reduceToNat,Int.reduceAdd,Int.reduceSub,Int.reduceMul,aB,aX]
    refine U.2 ⟨a',rfl,g2,⟨by simp only;omega,fun b oP=>?_⟩,fun b oP=>by have:=g5 b oP;omega⟩
    have e2:=e.ai b oP
    simp only at e2 ⊢
    rw [g4 b (by omega) (fun h=>by have:=hb b h;omega),← e2]
    simp -implicitDefEqProofs (disch:=omega) only [bu,cH,iI,bd]
  ·rintro ⟨_,aJ⟩ ⟨a,rfl,o,e,hb⟩
   simp (maxSteps:=2000000) -implicitDefEqProofs (disch:=(first |omega |rfl |assumption |(simp only [aK];first |omega |assumption))) only [jl,Nat.reduceAdd,Nat.reduceMul,Nat.reduceLT,Int.reduceToNat,Int.reduceAdd,Int.reduceSub,Int.reduceMul,aB,aX]
   exact U.2 ⟨a,rfl,o,e,hb⟩
  ·exact ⟨.nil,rfl,aN.nil _ _ _,(ep (by simp only [gK,bg,gR];omega) (fun b hb=>by simp -implicitDefEqProofs (disch:=(first |omega |rfl |assumption |(simp only [aK];first |omega |assumption))) only [bu,iI,bd,dX])),by simp [SA.bk]⟩
 refine Ok.step step fun r ⟨a,g1,o,e,hb⟩=>?_
 obtain ⟨q,aJ⟩:=r
 simp only at g1 o e
 subst g1
 have hnx:=e.next
 simp (maxSteps:=2000000) -implicitDefEqProofs (disch:=(first |omega |rfl |assumption |(simp only [aK];first |omega |assumption))) only [Nat.reduceAdd,Nat.reduceMul,Nat.reduceLT,Int.reduceToNat,Int.reduceAdd,Int.reduceSub,Int.reduceMul,aB,aX]
 have bS:=o.lt
 refine Ok.step (nW (nid:=aJ.next+1) (aN.of o (by simp) (fun b oP=>by have:=bS b oP;simp -implicitDefEqProofs (disch:=omega) only [bu,cH,iI,bd])) (fun h=>by have:=bS _ h;omega) (by simp) rfl) fun r ⟨a',g1,g2,g3,g4,g5⟩=>?_
 obtain ⟨q,aP⟩:=r
 simp only at g1 g2 g3 g4
 subst g1
 simp only [aK] at g3
 simp (maxSteps:=2000000) -implicitDefEqProofs (disch:=(first |omega |rfl |assumption |(simp only [aK];first |omega |assumption))) only [Nat.reduceAdd,Nat.reduceMul,Nat.reduceLT,Int.reduceToNat,Int.reduceAdd,Int.reduceSub,Int.reduceMul,aB,aX]
 obtain ⟨b,ha,YD,hbl⟩:=g2.loc (by decide)
 refine U.2 ⟨a',rfl,⟨b,_,ha,YD,hbl⟩,⟨by simp only;omega,fun c hc=>?_⟩,fun c hc=>by have:=g5 c hc;omega⟩
 have e2:=e.ai c hc
 simp only at e2 ⊢
 rw [g4 c (by omega) (fun h=>by have:=hb c h;omega),← e2]
 simp -implicitDefEqProofs (disch:=omega) only [bu,cH,iI,bd]
def MA:List Int:=[0,4095,16777215,536870911,4294967295,8589934591,4611686027017322495]
theorem TZ:∀ k:Fin 6,∃ x,FA[k.val]? = some x ∧ (1 ≤ x.2 ∧ x.1+x.2 ≤ 64) ∧ bE .and .u64 (MA.getD k.val 0) (Vm x.1 x.2)=0 ∧ bE .or .u64 (MA.getD k.val 0) (Vm x.1 x.2)=MA.getD (k.val+1) 0:=by
 intro k
 match k with
 |⟨0,_⟩=>exact ⟨_,rfl,by decide,by kernel_rfl,by kernel_rfl⟩
 |⟨1,_⟩=>exact ⟨_,rfl,by decide,by kernel_rfl,by kernel_rfl⟩
 |⟨2,_⟩=>exact ⟨_,rfl,by decide,by kernel_rfl,by kernel_rfl⟩
 |⟨3,_⟩=>exact ⟨_,rfl,by decide,by kernel_rfl,by kernel_rfl⟩
 |⟨4,_⟩=>exact ⟨_,rfl,by decide,by kernel_rfl,by kernel_rfl⟩
 |⟨5,_⟩=>exact ⟨_,rfl,by decide,by kernel_rfl,by kernel_rfl⟩
theorem abv {k:Nat} {x:Nat × Nat} (h:FA[k]? = some x):(FC FA)[k*2]? = some (.i .i64 (x.1:Int)) ∧ (FC FA)[k*2+1]? = some (.i .i64 (x.2:Int)):=by
 have hk:k<6:=(List.getElem?_eq_some_iff.1 h).1
 rcases (by omega:k=0 ∨ k=1 ∨ k=2 ∨ k=3 ∨ k=4 ∨ k=5) with rfl |rfl |rfl |rfl |rfl |rfl<;>(cases h;exact ⟨rfl,rfl⟩)
theorem abw {σ:AH O} {a:SA} (h:PY σ a):Ok (tS [.sl a 6] σ) fun r=>r.1=.b true ∧ Ext σ r.2:=by
 simp (maxSteps:=2000000) -implicitDefEqProofs (disch:=(first |omega |rfl |assumption |(simp only [aK];first |omega |assumption))) only [tS,vd,Nat.reduceAdd,Nat.reduceMul,Nat.reduceLT,Int.reduceToNat,Int.reduceAdd,Int.reduceSub,Int.reduceMul,aB,aX]
 refine Ok.bK (Q:=fun r=>∃ aJ,r=.inl ([],aJ) ∧ Ext σ aJ) (Ok.count 6 (fun k s=>s.1=[.i .u64 (MA.getD k 0),.i .i64 (k:Int)] ∧ Ext σ s.2) ?_ ?_ ⟨rfl,Ext.refl _⟩) ?_ ?_
 ·rintro k ⟨_,aJ⟩ hk ⟨rfl,e⟩
  obtain ⟨x,hx,hr,m1,m2⟩:=TZ ⟨k,hk⟩
  simp only at hx m1 m2
  obtain ⟨b,el,rfl,hb,bS⟩:=h.ext e
  obtain ⟨c1,c2⟩:=abv hx
  have jL:=ad8 (a:=x.1) hr.1
  simp only at hb bS
  have t1:(k:Int).toNat*2=k*2:=by omega
  simp (maxSteps:=2000000) -implicitDefEqProofs (disch:=(first |omega |rfl |assumption |(simp only [aK];first |omega |assumption))) only [rU,hb,SA.ref,t1,c1,c2,Nat.reduceAdd,Nat.reduceMul,Nat.reduceLT,Int.reduceToNat,Int.reduceAdd,Int.reduceSub,Int.reduceMul,aB,aX]
  refine Ok.step (Mz _ hr.1 hr.2) fun r ⟨g1,g2⟩=>?_
  obtain ⟨q,aP⟩:=r
  simp only at g1 g2
  subst g1
  have n1:(Vm x.1 x.2 == 0)=false:=by simp [jL]
  simp (maxSteps:=2000000) -implicitDefEqProofs (disch:=(first |omega |rfl |assumption |(simp only [aK];first |omega |assumption))) only [n1,m1,m2,Nat.reduceAdd,Nat.reduceMul,Nat.reduceLT,Int.reduceToNat,Int.reduceAdd,Int.reduceSub,Int.reduceMul,aB,aX]
  refine U.2 ⟨rfl,e.trans (ep (by (have x0:=(g2).next);(try simp only [aK] at *);omega) (fun b hb=>by (have x0:=(g2).next);(try simp only [aK] at *);simp -implicitDefEqProofs (disch:=(first |omega |rfl |assumption |(simp only [aK];first |omega |assumption))) only [bu,iI,bd,dX (g2)]))⟩
 ·rintro ⟨_,aJ⟩ ⟨rfl,e⟩
  simp (maxSteps:=2000000) -implicitDefEqProofs (disch:=(first |omega |rfl |assumption |(simp only [aK];first |omega |assumption))) only [rU,Nat.reduceAdd,Nat.reduceMul,Nat.reduceLT,Int.reduceToNat,Int.reduceAdd,Int.reduceSub,Int.reduceMul,aB,aX]
  exact U.2 ⟨aJ,rfl,e⟩
 ·rintro _ ⟨aJ,hh,e⟩
  cases hh
  exact U.2 ⟨rfl,e⟩
 ·rintro _ ⟨aJ,hh,e⟩
  cases hh
end Go.Abs.Tryz
namespace Go.Abs.Tryz
open Go Go.Abs
variable {O:Type}
structure Hd where
 p:Nat
 r:Nat
 s:Nat
 g:Nat
 l:Bool
structure Hd.ok (h:Hd):Prop where
 p:h.p<4096
 r:h.r<4096
 s:h.s<32
 g:h.g<8
def Hd.ln (h:Hd):Nat:=if h.l then 1 else 0
def Hd.ns (h:Hd):List Nat:=[h.p,h.r,h.s,h.g,h.ln,1]
def Hd.w (h:Hd):Nat → Nat
 |0=>0
 |1=>0+h.p*2 ^ 0
 |2=>0+h.p*2 ^ 0+h.r*2 ^ 12
 |3=>0+h.p*2 ^ 0+h.r*2 ^ 12+h.s*2 ^ 24
 |4=>0+h.p*2 ^ 0+h.r*2 ^ 12+h.s*2 ^ 24+h.g*2 ^ 29
 |5=>0+h.p*2 ^ 0+h.r*2 ^ 12+h.s*2 ^ 24+h.g*2 ^ 29+h.ln*2 ^ 32
 |_=>0+h.p*2 ^ 0+h.r*2 ^ 12+h.s*2 ^ 24+h.g*2 ^ 29+h.ln*2 ^ 32+1*2 ^ 62
def Hd.word (h:Hd):Nat:=h.w 6
theorem Hd.alL (h:Hd):h.ln<2:=by unfold Hd.ln;split<;>omega
theorem Hd.ok.w {h:Hd} (k:h.ok):h.word<2 ^ 63 ∧ 2 ^ 62 ≤ h.word:=by
 have h1:=k.p;have h2:=k.r;have h3:=k.s;have h4:=k.g;have h5:=h.alL
 simp only [Hd.word,Hd.w]
 omega
theorem abx {σ:AH O} {a:SA} {b el:Nat} {h:Hd} (hk:h.ok) (hf:PY σ a) (hb:σ.ai b=some (.cells true el (h.ns.map fun n:Nat=>AV.i .u64 (n:Int)))) (bS:b<σ.next):
  Ok (yx [.sl a 6,.sl (.loc (.n b) 0 1) 6] σ) fun r=>r.1=.aS [.i .u64 (h.word:Int),.i .i64 0] ∧ Ext σ r.2:=by
 have h1:=hk.p;have h2:=hk.r;have h3:=hk.s;have h4:=hk.g;have h5:=h.alL
 simp (maxSteps:=2000000) -implicitDefEqProofs (disch:=(first |omega |rfl |assumption |(simp only [aK];first |omega |assumption))) only [yx,yy,Nat.reduceAdd,Nat.reduceMul,Nat.reduceLT,Int.reduceToNat,Int.reduceAdd,Int.reduceSub,Int.reduceMul,aB,aX]
 refine Ok.step (abw hf) fun r ⟨g1,g2⟩=>?_
 obtain ⟨q,aJ⟩:=r
 simp only at g1 g2
 subst g1
 have hf1:=hf.ext g2
 have hb1:aJ.ai b=_:=(g2.ai _ bS).trans hb
 have alM:=Nat.lt_of_lt_of_le bS g2.next
 have e6:(((6:Nat):Int) != ((6:Nat):Int))=false:=rfl
 simp (maxSteps:=2000000) -implicitDefEqProofs (disch:=(first |omega |rfl |assumption |(simp only [aK];first |omega |assumption))) only [e6,Nat.reduceAdd,Nat.reduceMul,Nat.reduceLT,Int.reduceToNat,Int.reduceAdd,Int.reduceSub,Int.reduceMul,aB,aX]
 refine Ok.bK (Q:=fun r=>∃ aP,r=.inl ([.i .u64 (h.word:Int)],aP) ∧ Ext aJ aP) (Ok.count 6 (fun k s=>s.1=[.i .u64 (h.w k:Int),.i .i64 (k:Int)] ∧ Ext aJ s.2) ?_ ?_ ⟨rfl,Ext.refl _⟩) ?_ ?_
 ·rintro k ⟨_,aP⟩ hk ⟨rfl,e⟩
  obtain ⟨c,el',rfl,hc,Jy⟩:=hf1.ext e
  have Dm:=(e.ai _ alM).trans hb1
  have YI:=Nat.lt_of_lt_of_le alM e.next
  simp only at hc Jy Dm YI
  have key:∀ (x:Nat × Nat) (n:Nat),FA[k]? = some x → h.ns[k]? = some n → 1 ≤ x.2 → x.1+x.2 ≤ 64 → x.2 ≤ 16 → h.w k<2 ^ x.1 → n<2 ^ x.2 → h.w k+n*2 ^ x.1=h.w (k+1) →
    Ok (oE (.loc (.n c) 0 2,6) (.loc (.n b) 0 1,6) wL ([.i .u64 (h.w k:Int),.i .i64 (k:Int)],aP)) fun r=>match r with |.inl s'=>s'.1=[.i .u64 (h.w (k+1):Int),.i .i64 ((k+1:Nat):Int)] ∧ Ext aJ s'.2 |.inr t=>∃ aP,t=.inl ([.i .u64 (h.word:Int)],aP) ∧ Ext aJ aP:=by
   intro x n hx hn q1 q2 q3 q4 q5 q6
   obtain ⟨c1,c2⟩:=abv hx
   have t1:(k:Int).toNat*2=k*2:=by omega
   have t2:(k:Int).toNat*1=k:=by omega
   have c3:(h.ns.map fun n:Nat=>AV.i .u64 (n:Int))[k]? = some (.i .u64 (n:Int)):=by rw [List.getElem?_map,hn];rfl
   have e0:((0:Int) != 0)=false:=rfl
   simp (maxSteps:=2000000) -implicitDefEqProofs (disch:=(first |omega |rfl |assumption |(simp only [aK];first |omega |assumption))) only [oE,hc,SA.ref,t1,t2,c1,c2,Dm,c3,Nat.reduceAdd,Nat.reduceMul,Nat.reduceLT,Int.reduceToNat,Int.reduceAdd,Int.reduceSub,Int.reduceMul,aB,aX]
   refine Ok.step (aea _ q1 q2 q3 q4 q5) fun r ⟨k1,k2⟩=>?_
   obtain ⟨q,cE⟩:=r
   simp only at k1 k2
   subst k1
   simp (maxSteps:=2000000) -implicitDefEqProofs (disch:=(first |omega |rfl |assumption |(simp only [aK];first |omega |assumption))) only [e0,Nat.reduceAdd,Nat.reduceMul,Nat.reduceLT,Int.reduceToNat,Int.reduceAdd,Int.reduceSub,Int.reduceMul,aB,aX]
   exact U.2 ⟨by rw [q6];rfl,e.trans (ep (by (have x0:=(k2).next);(try simp only [aK] at *);omega) (fun b hb=>by (have x0:=(k2).next);(try simp only [aK] at *);simp -implicitDefEqProofs (disch:=(first |omega |rfl |assumption |(simp only [aK];first |omega |assumption))) only [bu,iI,bd,dX (k2)]))⟩
  rcases (by omega:k=0 ∨ k=1 ∨ k=2 ∨ k=3 ∨ k=4 ∨ k=5) with rfl |rfl |rfl |rfl |rfl |rfl
  all_goals
   refine (key _ _ rfl rfl (by decide) (by decide) (by decide) ?_ ?_ rfl).mono fun r hr=>by cases r<;>exact hr
   all_goals
    simp only [Hd.w]
    omega
 ·rintro ⟨_,aP⟩ ⟨rfl,e⟩
  simp (maxSteps:=2000000) -implicitDefEqProofs (disch:=(first |omega |rfl |assumption |(simp only [aK];first |omega |assumption))) only [oE,Nat.reduceAdd,Nat.reduceMul,Nat.reduceLT,Int.reduceToNat,Int.reduceAdd,Int.reduceSub,Int.reduceMul,aB,aX]
  exact U.2 ⟨aP,rfl,e⟩
 ·rintro _ ⟨aP,hh,e⟩
  cases hh
  simp (maxSteps:=2000000) -implicitDefEqProofs (disch:=(first |omega |rfl |assumption |(simp only [aK];first |omega |assumption))) only [Nat.reduceAdd,Nat.reduceMul,Nat.reduceLT,Int.reduceToNat,Int.reduceAdd,Int.reduceSub,Int.reduceMul,aB,aX]
  exact U.2 ⟨rfl,g2.trans e⟩
 ·rintro _ ⟨aP,hh,e⟩
  cases hh
theorem B1 (σ:AH O) (n m:Int):j4 [.i .i64 n,.i .i64 m] σ=some (.b (decide (0 ≤ n ∧ n ≤ m)),σ):=by
 by_cases h:0 ≤ n
 ·simp (maxSteps:=2000000) -implicitDefEqProofs (disch:=(first |omega |rfl |assumption |(simp only [aK];first |omega |assumption))) only [j4,kz,ge_iff_le,Nat.reduceAdd,Nat.reduceMul,Nat.reduceLT,Int.reduceToNat,Int.reduceAdd,Int.reduceSub,Int.reduceMul,aB,aX]
  try simp [h]
 ·simp (maxSteps:=2000000) -implicitDefEqProofs (disch:=(first |omega |rfl |assumption |(simp only [aK];first |omega |assumption))) only [j4,kz,ge_iff_le,Nat.reduceAdd,Nat.reduceMul,Nat.reduceLT,Int.reduceToNat,Int.reduceAdd,Int.reduceSub,Int.reduceMul,aB,aX]
  try simp [h]
def B2 (p r s g:Int):Int:=if ¬(0 ≤ p ∧ p ≤ 4095) ∨ ¬(0 ≤ r ∧ r ≤ 4095) then 20 else if ¬(0 ≤ s ∧ s ≤ 31) then 21 else if ¬(0 ≤ g ∧ g ≤ 7) then 2 else 0
theorem T0 (σ:AH O) (p r s g:Int) (l:Bool):Ok (cD [.agg [.i .i64 p,.i .i64 r,.i .i64 s,.i .i64 g,.b l]] σ) fun q=>q.1=.i .i64 (B2 p r s g) ∧ Ext σ q.2:=by
 by_cases h1:0 ≤ p ∧ p ≤ 4095
 ·by_cases h2:0 ≤ r ∧ r ≤ 4095
  ·by_cases h3:0 ≤ s ∧ s ≤ 31
   ·by_cases h4:0 ≤ g ∧ g ≤ 7
    ·simp (maxSteps:=2000000) -implicitDefEqProofs (disch:=(first |omega |rfl |assumption |(simp only [aK];first |omega |assumption))) only [cD,ez,B1,decide_eq_true h1,decide_eq_true h2,decide_eq_true h3,decide_eq_true h4,Nat.reduceAdd,Nat.reduceMul,Nat.reduceLT,Int.reduceToNat,Int.reduceAdd,Int.reduceSub,Int.reduceMul,aB,aX]
     exact U.2 ⟨by simp [B2,h1,h2,h3,h4],(ep (by simp only [gK,bg,gR];omega) (fun b hb=>by simp -implicitDefEqProofs (disch:=(first |omega |rfl |assumption |(simp only [aK];first |omega |assumption))) only [bu,iI,bd,dX]))⟩
    ·simp (maxSteps:=2000000) -implicitDefEqProofs (disch:=(first |omega |rfl |assumption |(simp only [aK];first |omega |assumption))) only [cD,ez,B1,decide_eq_true h1,decide_eq_true h2,decide_eq_true h3,decide_eq_false h4,Nat.reduceAdd,Nat.reduceMul,Nat.reduceLT,Int.reduceToNat,Int.reduceAdd,Int.reduceSub,Int.reduceMul,aB,aX]
     exact U.2 ⟨by simp [B2,h1,h2,h3,h4],(ep (by simp only [gK,bg,gR];omega) (fun b hb=>by simp -implicitDefEqProofs (disch:=(first |omega |rfl |assumption |(simp only [aK];first |omega |assumption))) only [bu,iI,bd,dX]))⟩
   ·simp (maxSteps:=2000000) -implicitDefEqProofs (disch:=(first |omega |rfl |assumption |(simp only [aK];first |omega |assumption))) only [cD,ez,B1,decide_eq_true h1,decide_eq_true h2,decide_eq_false h3,Nat.reduceAdd,Nat.reduceMul,Nat.reduceLT,Int.reduceToNat,Int.reduceAdd,Int.reduceSub,Int.reduceMul,aB,aX]
    exact U.2 ⟨by simp [B2,h1,h2,h3],(ep (by simp only [gK,bg,gR];omega) (fun b hb=>by simp -implicitDefEqProofs (disch:=(first |omega |rfl |assumption |(simp only [aK];first |omega |assumption))) only [bu,iI,bd,dX]))⟩
  ·simp (maxSteps:=2000000) -implicitDefEqProofs (disch:=(first |omega |rfl |assumption |(simp only [aK];first |omega |assumption))) only [cD,ez,B1,decide_eq_true h1,decide_eq_false h2,Nat.reduceAdd,Nat.reduceMul,Nat.reduceLT,Int.reduceToNat,Int.reduceAdd,Int.reduceSub,Int.reduceMul,aB,aX]
   exact U.2 ⟨by simp [B2,h1,h2],(ep (by simp only [gK,bg,gR];omega) (fun b hb=>by simp -implicitDefEqProofs (disch:=(first |omega |rfl |assumption |(simp only [aK];first |omega |assumption))) only [bu,iI,bd,dX]))⟩
 ·simp (maxSteps:=2000000) -implicitDefEqProofs (disch:=(first |omega |rfl |assumption |(simp only [aK];first |omega |assumption))) only [cD,ez,B1,decide_eq_false h1,Nat.reduceAdd,Nat.reduceMul,Nat.reduceLT,Int.reduceToNat,Int.reduceAdd,Int.reduceSub,Int.reduceMul,aB,aX]
  exact U.2 ⟨by simp [B2,h1],(ep (by simp only [gK,bg,gR];omega) (fun b hb=>by simp -implicitDefEqProofs (disch:=(first |omega |rfl |assumption |(simp only [aK];first |omega |assumption))) only [bu,iI,bd,dX]))⟩
def Hd.av (h:Hd):List AV:=[.i .i64 (h.p:Int),.i .i64 (h.r:Int),.i .i64 (h.s:Int),.i .i64 (h.g:Int),.b h.l]
theorem Hd.ok.chk {h:Hd} (k:h.ok):B2 h.p h.r h.s h.g=0:=by
 have h1:=k.p;have h2:=k.r;have h3:=k.s;have h4:=k.g
 unfold B2
 rw [if_neg (by omega),if_neg (by omega),if_neg (by omega)]
theorem T2 (σ:AH O) {h:Hd} (k:h.ok):Ok (df [.agg h.av] σ) fun q=>q.1=.aS [.i .u64 (h.word:Int),.i .i64 0] ∧ Ext σ q.2:=by
 have h1:=k.p;have h2:=k.r;have h3:=k.s;have h4:=k.g
 unfold Hd.av
 simp (maxSteps:=2000000) -implicitDefEqProofs (disch:=(first |omega |rfl |assumption |(simp only [aK];first |omega |assumption))) only [df,ve,Nat.reduceAdd,Nat.reduceMul,Nat.reduceLT,Int.reduceToNat,Int.reduceAdd,Int.reduceSub,Int.reduceMul,aB,aX]
 refine Ok.step (T0 _ h.p h.r h.s h.g h.l) fun q ⟨g1,g2⟩=>?_
 obtain ⟨q,aJ⟩:=q
 simp only at g1 g2
 rw [k.chk] at g1
 subst g1
 have e0:((0:Int) != 0)=false:=rfl
 have hb:aJ.ai σ.next=some (.cells true 47 [.i .i64 (h.p:Int),.i .i64 (h.r:Int),.i .i64 (h.s:Int),.i .i64 (h.g:Int),.b h.l]):=(g2.ai _ (by simp)).trans cH
 have g2n:=g2.next
 simp only [aK] at g2n
 have e1:(bif h.l then (1:Int) else 0)=(h.ln:Int):=by unfold Hd.ln;cases h.l<;>rfl
 simp (maxSteps:=2000000) -implicitDefEqProofs (disch:=(first |omega |rfl |assumption |(simp only [aK];first |omega |assumption))) only [e0,hb,e1,Nat.reduceAdd,Nat.reduceMul,Nat.reduceLT,Int.reduceToNat,Int.reduceAdd,Int.reduceSub,Int.reduceMul,aB,aX]
 refine Ok.step (PZ _) fun q ⟨a,k1,k2,k3,k4⟩=>?_
 obtain ⟨q,aP⟩:=q
 simp only at k1 k2 k3 k4
 subst k1
 have Dm:aP.ai σ.next=_:=(k3.ai _ (by simp;omega)).trans hb
 have k3n:=k3.next
 simp only [aK] at k3n k4
 simp (maxSteps:=2000000) -implicitDefEqProofs (disch:=(first |omega |rfl |assumption |(simp only [aK];first |omega |assumption))) only [Dm,Nat.reduceAdd,Nat.reduceMul,Nat.reduceLT,Int.reduceToNat,Int.reduceAdd,Int.reduceSub,Int.reduceMul,aB,aX]
 obtain ⟨c,el,rfl,hc,Jy⟩:=k2
 have jL:=k4 c (by simp [SA.bk])
 refine Ok.step (abx k (b:=aJ.next) (el:=63) ⟨c,el,rfl,by simp -implicitDefEqProofs (disch:=omega) only [bu,cH,iI,bd];exact hc,by simpa using Jy⟩ (by simp -implicitDefEqProofs (disch:=omega) only [bu,cH,iI,bd];rfl) (by simp;omega)) fun q ⟨j1,j2⟩=>?_
 obtain ⟨q,cE⟩:=q
 simp only at j1 j2
 subst j1
 simp (maxSteps:=2000000) -implicitDefEqProofs (disch:=(first |omega |rfl |assumption |(simp only [aK];first |omega |assumption))) only [Nat.reduceAdd,Nat.reduceMul,Nat.reduceLT,Int.reduceToNat,Int.reduceAdd,Int.reduceSub,Int.reduceMul,aB,aX]
 exact U.2 ⟨rfl,(ep (by (have x0:=(g2).next);(have x1:=(k3).next);(have x2:=(j2).next);(try simp only [aK] at *);omega) (fun b hb=>by (have x0:=(g2).next);(have x1:=(k3).next);(have x2:=(j2).next);(try simp only [aK] at *);simp -implicitDefEqProofs (disch:=(first |omega |rfl |assumption |(simp only [aK];first |omega |assumption))) only [bu,iI,bd,dX (g2),dX (k3),dX (j2)]))⟩
end Go.Abs.Tryz
set_option maxHeartbeats 2000000
namespace Go.Abs.Tryz
open Go Go.Abs
variable {O:Type}
def Kw (w:Nat):Hd:=⟨w / 2 ^ 0 % 2 ^ 12,w / 2 ^ 12 % 2 ^ 12,w / 2 ^ 24 % 2 ^ 5,w / 2 ^ 29 % 2 ^ 3,w / 2 ^ 32 % 2 ^ 1 == 1⟩
theorem aec (w:Nat):(Kw w).ok:=⟨Nat.mod_lt _ (by decide),Nat.mod_lt _ (by decide),Nat.mod_lt _ (by decide),Nat.mod_lt _ (by decide)⟩
def Ww (w:Nat):List AV:=FA.map fun x=>.i .i64 ((w / 2 ^ x.1 % 2 ^ x.2:Nat):Int)
theorem Zi (σ:AH O) {w:Nat} (hw:w<2 ^ 64):Ok (cR [.i .u64 (w:Int)] σ) fun r=>r.1=(if (Kw w).word=w then .aS [.agg (Kw w).av,.i .i64 0] else .aS [.agg [.i .i64 0,.i .i64 0,.i .i64 0,.i .i64 0,.b false],.i .i64 5]) ∧ Ext σ r.2:=by
 simp (maxSteps:=2000000) -implicitDefEqProofs (disch:=(first |omega |rfl |assumption |(simp only [aK];first |omega |assumption))) only [cR,pV,Nat.reduceAdd,Nat.reduceMul,Nat.reduceLT,Int.reduceToNat,Int.reduceAdd,Int.reduceSub,Int.reduceMul,aB,aX]
 refine Ok.step (PZ _) fun q ⟨a,k1,k2,k3,k4⟩=>?_
 obtain ⟨q,aJ⟩:=q
 simp only at k1 k2 k3 k4
 subst k1
 have k3n:=k3.next
 simp only [aK] at k3n k4
 simp (maxSteps:=2000000) -implicitDefEqProofs (disch:=(first |omega |rfl |assumption |(simp only [aK];first |omega |assumption))) only [Nat.reduceAdd,Nat.reduceMul,Nat.reduceLT,Int.reduceToNat,Int.reduceAdd,Int.reduceSub,Int.reduceMul,aB,aX]
 have step:Ok (aQ (jm (a,6) wM (w:Int)) ([.sl .nil 0,.i .i64 0],aJ)) fun r=>∃ a',r.1=[.sl a' 6] ∧ aN r.2 3 1 a' 6 (Ww w) ∧ Ext aJ r.2 ∧ ∀ b∈SA.bk a',aJ.next ≤ b:=by
  refine Ok.count 6 (fun k s=>∃ a',s.1=[.sl a' k,.i .i64 (k:Int)] ∧ aN s.2 3 1 a' k ((Ww w).take k) ∧ Ext aJ s.2 ∧ ∀ b∈SA.bk a',aJ.next ≤ b) ?_ ?_ ?_
  ·rintro k ⟨_,aP⟩ hk ⟨a',rfl,o,e,hb⟩
   have bS:=o.lt
   obtain ⟨c,el,rfl,hc,Jy⟩:=k2.ext e
   simp only at hc Jy o bS
   obtain ⟨x,hx,hr,m1,m2⟩:=TZ ⟨k,hk⟩
   simp only at hx m1 m2
   obtain ⟨c1,c2⟩:=abv hx
   have t1:(k:Int).toNat*2=k*2:=by omega
   simp (maxSteps:=2000000) -implicitDefEqProofs (disch:=(first |omega |rfl |assumption |(simp only [aK];first |omega |assumption))) only [jm,hc,SA.ref,t1,c1,c2,Nat.reduceAdd,Nat.reduceMul,Nat.reduceLT,Int.reduceToNat,Int.reduceAdd,Int.reduceSub,Int.reduceMul,aB,aX]
   refine Ok.step (aeb _ hr.1 hr.2 hw) fun q ⟨g1,g2⟩=>?_
   obtain ⟨q,cE⟩:=q
   simp only at g1 g2
   subst g1
   have g2n:=g2.next
   simp only [aK] at g2n
   have aql:x.2 ≤ 12:=by
    rcases (by omega:k=0 ∨ k=1 ∨ k=2 ∨ k=3 ∨ k=4 ∨ k=5) with rfl |rfl |rfl |rfl |rfl |rfl<;>(cases hx;decide)
   have hsm:w / 2 ^ x.1 % 2 ^ x.2<4096:=Nat.lt_of_lt_of_le (Nat.mod_lt _ (Nat.pos_of_ne_zero (by simp))) (show 2 ^ x.2 ≤ 2 ^ 12 from Nat.pow_le_pow_right (by decide) aql)
   have hz:=aaX (n:=((w / 2 ^ x.1 % 2 ^ x.2:Nat):Int)) (by omega)
   have o3:aN cE 3 1 a' k ((Ww w).take k):=o.of (by omega) fun b oP=>by have:=bS b oP;rw [g2.ai b (by simp;omega)];simp -implicitDefEqProofs (disch:=omega) only [bu,cH,iI,bd]
   have aqm:Nat.ble ((k+1)*9) 35184372088832=true:=Nat.ble_eq_true_of_le (by omega)
   simp (maxSteps:=2000000) -implicitDefEqProofs (disch:=(first |omega |rfl |assumption |(simp only [aK];first |omega |assumption))) only [hz,aqm,Nat.reduceAdd,Nat.reduceMul,Nat.reduceLT,Int.reduceToNat,Int.reduceAdd,Int.reduceSub,Int.reduceMul,aB,aX]
   refine Ok.step (nW (nid:=aP.next+1+1) (aN.of o3 (by simp) (fun b oP=>by have:=bS b oP;simp -implicitDefEqProofs (disch:=omega) only [bu,cH,iI,bd])) (fun h=>by have:=bS _ h;omega) (by simp;omega) rfl) fun r ⟨a2,g1,g2',g3,g4,g5⟩=>?_
   obtain ⟨q,ky⟩:=r
   simp only at g1 g2' g3 g4
   subst g1
   simp only [aK] at g3
   have en:=e.next
   simp only at en
   simp (maxSteps:=2000000) -implicitDefEqProofs (disch:=(first |omega |rfl |assumption |(simp only [aK];first |omega |assumption))) only [Nat.reduceAdd,Nat.reduceMul,Nat.reduceLT,Int.reduceToNat,Int.reduceAdd,Int.reduceSub,Int.reduceMul,aB,aX]
   refine U.2 ⟨a2,by rw [Int.natCast_add];rfl,?_,⟨by simp only;omega,fun b oP=>?_⟩,fun b oP=>by have:=g5 b oP;omega⟩
   ·have:(Ww w).take (k+1)=(Ww w).take k++[.i .i64 ((w / 2 ^ x.1 % 2 ^ x.2:Nat):Int)]:=by
     rw [List.take_add_one]
     congr 1
     unfold Ww
     rw [List.getElem?_map,hx];rfl
    rw [this];exact g2'
   ·have e2:=e.ai b oP
    simp only at e2 ⊢
    rw [g4 b (by omega) (fun h=>by have:=hb b h;omega),← e2]
    simp -implicitDefEqProofs (disch:=omega) only [bu,cH,iI,bd]
    rw [g2.ai b (by simp;omega)]
    simp -implicitDefEqProofs (disch:=omega) only [bu,cH,iI,bd]
  ·rintro ⟨_,aP⟩ ⟨a',rfl,o,e,hb⟩
   simp (maxSteps:=2000000) -implicitDefEqProofs (disch:=(first |omega |rfl |assumption |(simp only [aK];first |omega |assumption))) only [jm,Nat.reduceAdd,Nat.reduceMul,Nat.reduceLT,Int.reduceToNat,Int.reduceAdd,Int.reduceSub,Int.reduceMul,aB,aX]
   exact U.2 ⟨a',rfl,o,e,hb⟩
  ·exact ⟨.nil,rfl,aN.nil _ _ _,Ext.refl _,by simp [SA.bk]⟩
 refine Ok.step step fun q ⟨a',j1,o,e,hb⟩=>?_
 obtain ⟨q,aP⟩:=q
 simp only at j1 o e
 subst j1
 obtain ⟨c,rfl,hc,Jy⟩:=o.loc (by decide)
 have en:=e.next
 simp only [Ww,FA,List.map_cons,List.map_nil] at hc
 have hbs:aP.ai σ.next=some (.cells true 47 [.i .i64 0,.i .i64 0,.i .i64 0,.i .i64 0,.b false]):=(e.ai _ (by omega)).trans ((k3.ai _ (by simp)).trans cH)
 have jL:=hb c (by simp [SA.bk])
 have hl:(((w / 2 ^ 32 % 2 ^ 1:Nat):Int) == 1)=(w / 2 ^ 32 % 2 ^ 1 == 1):=by
  by_cases h:w / 2 ^ 32 % 2 ^ 1=1
  ·rw [h];rfl
  ·rw [beq_eq_false_iff_ne.2 h,beq_eq_false_iff_ne.2 (by omega)]
 simp (maxSteps:=2000000) -implicitDefEqProofs (disch:=(first |omega |rfl |assumption |(simp only [aK];first |omega |assumption))) only [SA.ref,hc,hl,Nat.reduceAdd,Nat.reduceMul,Nat.reduceLT,Int.reduceToNat,Int.reduceAdd,Int.reduceSub,Int.reduceMul,aB,aX]
 refine Ok.step (T2 _ (aec w)) fun q ⟨g1,g2⟩=>?_
 obtain ⟨q,cE⟩:=q
 simp only at g1 g2
 subst g1
 have e0:((0:Int) != 0)=false:=rfl
 have g2n:=g2.next
 simp only [aK] at g2n
 have alO:cE.ai σ.next=some (.cells true 47 [.i .i64 0,.i .i64 0,.i .i64 0,.i .i64 0,.b false]):=by
  rw [g2.ai _ (by simp;omega)]
  simp -implicitDefEqProofs (disch:=omega) only [bu,cH,iI,bd]
  exact hbs
 have hb3:cE.ai aP.next=some (.cells true 47 (Kw w).av):=by
  rw [g2.ai _ (by simp)]
  simp -implicitDefEqProofs (disch:=omega) only [bu,cH,iI,bd]
  rfl
 simp only [Hd.av] at hb3
 by_cases hwd:(Kw w).word=w
 ·rw [if_pos hwd]
  have ew:((((Kw w).word:Nat):Int) != (w:Int))=false:=by rw [hwd];simp
  simp (maxSteps:=2000000) -implicitDefEqProofs (disch:=(first |omega |rfl |assumption |(simp only [aK];first |omega |assumption))) only [e0,ew,alO,hb3,Nat.reduceAdd,Nat.reduceMul,Nat.reduceLT,Int.reduceToNat,Int.reduceAdd,Int.reduceSub,Int.reduceMul,aB,aX]
  exact U.2 ⟨rfl,(ep (by (have x0:=(k3).next);(have x1:=(e).next);(have x2:=(g2).next);(try simp only [aK] at *);omega) (fun b hb=>by (have x0:=(k3).next);(have x1:=(e).next);(have x2:=(g2).next);(try simp only [aK] at *);simp -implicitDefEqProofs (disch:=(first |omega |rfl |assumption |(simp only [aK];first |omega |assumption))) only [bu,iI,bd,dX (k3),dX (e),dX (g2)]))⟩
 ·rw [if_neg hwd]
  have ew:((((Kw w).word:Nat):Int) != (w:Int))=true:=by simp;omega
  simp (maxSteps:=2000000) -implicitDefEqProofs (disch:=(first |omega |rfl |assumption |(simp only [aK];first |omega |assumption))) only [e0,ew,alO,hb3,Nat.reduceAdd,Nat.reduceMul,Nat.reduceLT,Int.reduceToNat,Int.reduceAdd,Int.reduceSub,Int.reduceMul,aB,aX]
  exact U.2 ⟨rfl,(ep (by (have x0:=(k3).next);(have x1:=(e).next);(have x2:=(g2).next);(try simp only [aK] at *);omega) (fun b hb=>by (have x0:=(k3).next);(have x1:=(e).next);(have x2:=(g2).next);(try simp only [aK] at *);simp -implicitDefEqProofs (disch:=(first |omega |rfl |assumption |(simp only [aK];first |omega |assumption))) only [bu,iI,bd,dX (k3),dX (e),dX (g2)]))⟩
end Go.Abs.Tryz
namespace Go.Abs.Tryz
open Go Go.Abs
variable {O:Type}
def Q5 (h:HV):Hd:=⟨h.p.toNat,h.r.toNat,h.site.toNat,h.pR.toNat,h.bW⟩
theorem QZ {h:HV} (k:Ob h=true):(0 ≤ h.p ∧ h.p ≤ 4095) ∧ (0 ≤ h.r ∧ h.r ≤ 4095) ∧ (0 ≤ h.site ∧ h.site ≤ 31) ∧ (0 ≤ h.pR ∧ h.pR ≤ 7):=by
 simpa only [Ob,decide_eq_true_eq] using k
theorem XJ (p r s g:Nat) (l:Bool):((Hd.word ⟨p,r,s,g,l⟩:Nat):Int)=pck ⟨p,r,s,g,l⟩:=by
 cases l with
 |true=>
  simp only [Hd.word,Hd.w,Hd.ln,pck,if_true]
  omega
 |false=>
  simp only [Hd.word,Hd.w,Hd.ln,pck,Bool.false_eq_true,if_false]
  omega
theorem aed {h:HV} (k:Ob h=true):(Q5 h).av=h.cs ∧ (Q5 h).ok ∧ ((Q5 h).word:Int)=pck h:=by
 obtain ⟨k1,k2,k3,k4⟩:=QZ k
 refine ⟨?_,⟨by show _<_;simp only [Q5];omega,by simp only [Q5];omega,by simp only [Q5];omega,by simp only [Q5];omega⟩,?_⟩
 ·simp only [Q5,Hd.av,HV.cs]
  rw [Int.toNat_of_nonneg k1.1,Int.toNat_of_nonneg k2.1,Int.toNat_of_nonneg k3.1,Int.toNat_of_nonneg k4.1]
 ·rw [show (Q5 h).word=Hd.word ⟨h.p.toNat,h.r.toNat,h.site.toNat,h.pR.toNat,h.bW⟩ from rfl,XJ]
  rw [Int.toNat_of_nonneg k1.1,Int.toNat_of_nonneg k2.1,Int.toNat_of_nonneg k3.1,Int.toNat_of_nonneg k4.1]
theorem Zh (σ:AH O) {h:HV} (k:Ob h=true):Ok (df [.agg [.i .i64 h.p,.i .i64 h.r,.i .i64 h.site,.i .i64 h.pR,.b h.bW]] σ) fun q=>q.1=.aS [.i .u64 (pck h),.i .i64 0] ∧ Ext σ q.2:=by
 obtain ⟨h1,h2,h3⟩:=aed k
 have:=T2 σ h2
 rw [h1,h3] at this
 exact this
theorem aby {w:Nat}:(Kw w).av=(Y2 (w:Int)).cs ∧ ((Kw w).word:Int)=pck (Y2 (w:Int)):=by
 have e:(w / 2 ^ 32 % 2 ^ 1 == 1)=decide ((w:Int) / 4294967296 % 2=1):=by
  rw [Bool.eq_iff_iff,decide_eq_true_eq,beq_iff_eq];omega
 constructor
 ·simp only [Kw,Hd.av,Y2,HV.cs,e]
  simp only [List.cons.injEq,AV.i.injEq,true_and,and_true]
  refine ⟨?_,?_,?_,?_⟩<;>omega
 ·unfold Kw Y2
  rw [XJ,e]
  congr 2<;>omega
theorem alP (w:Int):Ob (Y2 w)=true:=by
 show decide ((0 ≤ w % 4096 ∧ w % 4096 ≤ 4095) ∧ (0 ≤ w / 4096 % 4096 ∧ w / 4096 % 4096 ≤ 4095) ∧ (0 ≤ w / 16777216 % 32 ∧ w / 16777216 % 32 ≤ 31) ∧ (0 ≤ w / 536870912 % 8 ∧ w / 536870912 % 8 ≤ 7))=true
 exact decide_eq_true (by omega)
theorem alw {w:Int} {h:HV} (e:unp w=some h):Ob h=true:=by
 unfold unp at e
 split at e
 ·cases e;exact alP w
 ·cases e
def adM (w:Int):AV:=match unp w with |some h=>.aS [.agg h.cs,.i .i64 0] |none=>.aS [.agg abc.cs,.i .i64 5]
theorem TF (σ:AH O) {w:Int} (h0:0 ≤ w) (h1:w<18446744073709551616):Ok (cR [.i .u64 w] σ) fun r=>r.1=adM w ∧ Ext σ r.2:=by
 obtain ⟨n,rfl⟩:=Int.eq_ofNat_of_zero_le h0
 obtain ⟨e1,e2⟩:=aby (w:=n)
 refine (Zi σ (w:=n) (by omega)).mono fun r ⟨g1,g2⟩=>⟨?_,g2⟩
 rw [g1,e1]
 unfold adM unp
 by_cases c:(Kw n).word=n
 ·rw [if_pos c,if_pos (by rw [← e2,c])]
 ·rw [if_neg c,if_neg fun h=>c (by rw [← e2] at h;omega)]
  rfl
theorem aee (h:HV):(B2 h.p h.r h.site h.pR=0) ↔ Ob h=true:=by
 unfold B2
 simp only [Ob,decide_eq_true_eq]
 split
 ·omega
 ·split
  ·omega
  ·split<;>omega
theorem Zj (σ:AH O) (h:HV):Ok (cD [.agg [.i .i64 h.p,.i .i64 h.r,.i .i64 h.site,.i .i64 h.pR,.b h.bW]] σ) fun q=>(∃ c,q.1=.i .i64 c ∧ (c == 0)=Ob h) ∧ Ext σ q.2:=by
 refine (T0 σ h.p h.r h.site h.pR h.bW).mono fun q ⟨g1,g2⟩=>⟨⟨_,g1,?_⟩,g2⟩
 have:=aee h
 cases hh:Ob h with
 |true=>rw [this.2 hh];rfl
 |false=>
  have:B2 h.p h.r h.site h.pR≠0:=fun e=>by rw [this.1 e] at hh;cases hh
  simpa using this
end Go.Abs.Tryz
set_option maxHeartbeats 4000000
namespace Go.Abs.Tryz
open Go Go.Abs
variable {O:Type}
theorem BP {k:IntKind} {a:SA} {l:List Int} (h:bF k a l) {i:Nat} {x:Int} (hx:l[i]? = some x):∃ b o,SA.ref a=some (b,o) ∧ ∀ (O:Type) (σ:AH O),σ.ld b (o+i)=some (.i k x):=by
 obtain ⟨b,o,e,ld⟩:=h.at hx
 exact ⟨b,o,by rw [e];rfl,ld⟩
theorem abp {a:SA} {l:List NV} (h:JJ a l) {i:Nat} {x:NV} (hx:l[i]? = some x):∃ b o c d,SA.ref a=some (b,o) ∧ bF .i64 c x.P ∧ bF .u64 d x.R ∧ ∀ (O:Type) (σ:AH O),
  σ.ld b (o+i*7)=some (.i .i64 x.h.p) ∧ σ.ld b (o+i*7+1)=some (.i .i64 x.h.r) ∧ σ.ld b (o+i*7+2)=some (.i .i64 x.h.site) ∧ σ.ld b (o+i*7+3)=some (.i .i64 x.h.pR) ∧ σ.ld b (o+i*7+4)=some (.b x.h.bW) ∧ σ.ld b (o+i*7+5)=some (.sl c x.P.length) ∧ σ.ld b (o+i*7+6)=some (.sl d x.R.length):=by
 obtain ⟨b,o,c,d,e,h1,h2,h3⟩:=h.node hx
 exact ⟨b,o,c,d,by rw [e];rfl,h1,h2,h3⟩
structure gk (σ:AH O) (a:SA) (l:List NV):Prop where
 it:∃ vs,Rd σ 7 a l.length vs ∧ ∀ i x,l[i]? = some x → ∃ c d,bF .i64 c x.P ∧ ∀ j,j<7 → vs[i*7+j]? = (x.cells c d)[j]?
 lt:∀ b∈SA.bk a,b<σ.next
theorem gk.of {σ aj:AH O} {a:SA} {l:List NV} (h:gk σ a l) (hn:σ.next ≤ aj.next) (hb:∀ b∈SA.bk a,aj.ai b=σ.ai b):gk aj a l:=by
 obtain ⟨vs,h1,h2⟩:=h.it
 exact ⟨⟨vs,h1.of hb,h2⟩,fun b oP=>by have:=h.lt b oP;omega⟩
theorem gk.ext {σ aj:AH O} {a:SA} {l:List NV} (h:gk σ a l) (E:Ext σ aj):gk aj a l:=h.of E.next fun b hb=>E.ai b (h.lt b hb)
theorem gk.node {σ:AH O} {a:SA} {l:List NV} (h:gk σ a l) {i:Nat} {x:NV} (hx:l[i]? = some x):∃ b o c d,SA.ref a=some (b,o) ∧ bF .i64 c x.P ∧
  (σ.ld b (o+i*7)=some (.i .i64 x.h.p) ∧ σ.ld b (o+i*7+1)=some (.i .i64 x.h.r) ∧ σ.ld b (o+i*7+2)=some (.i .i64 x.h.site) ∧ σ.ld b (o+i*7+3)=some (.i .i64 x.h.pR) ∧ σ.ld b (o+i*7+4)=some (.b x.h.bW) ∧ σ.ld b (o+i*7+5)=some (.sl c x.P.length) ∧ σ.ld b (o+i*7+6)=some (.sl d x.R.length)):=by
 obtain ⟨vs,h1,h2⟩:=h.it
 obtain ⟨c,d,ic,h3⟩:=h2 i x hx
 obtain ⟨b,o,rfl,h4⟩:=h1.ref (List.getElem?_eq_some_iff.1 hx).1
 have k:=fun j hj=>(h4 j hj).trans (h3 j hj)
 exact ⟨b,o,c,d,rfl,ic,k 0 (by decide),k 1 (by decide),k 2 (by decide),k 3 (by decide),k 4 (by decide),k 5 (by decide),k 6 (by decide)⟩
theorem MB {l:List NV} {vs:List AV} (h:ng (l.flatMap NV.row) vs) {i:Nat} {x:NV} (hx:l[i]? = some x):∃ c d,bF .i64 c x.P ∧ bF .u64 d x.R ∧ ∀ j,j<7 → vs[i*7+j]? = (x.cells c d)[j]? := by
 have h2:=(h.drop (i*7)).take 7
 have e:((l.flatMap NV.row).drop (i*7)).take 7=x.row:=by
  apply List.ext_getElem?
  intro j
  rw [List.getElem?_take]
  split
  ·rename_i hj
   rw [List.getElem?_drop,GM NV.len _ _ _ hj,hx];rfl
  ·rename_i hj
   rw [List.getElem?_eq_none]
   rw [NV.len];omega
 rw [e] at h2
 obtain ⟨c,d,e2,h3,h4⟩:=NV.un h2
 refine ⟨c,d,h3,h4,fun j hj=>?_⟩
 rw [← e2,List.getElem?_take,if_pos hj,List.getElem?_drop]
theorem gk.im {a:SA} {l:List NV} (h:JJ a l) (σ:AH O):gk σ a l:=by
 obtain ⟨vs,h1,h2⟩:=h.it
 refine ⟨⟨vs,h1 O σ,fun i x hx=>?_⟩,fun b hb=>by rw [h1.bk] at hb;cases hb⟩
 obtain ⟨c,d,h3,_,h5⟩:=MB h2 hx
 exact ⟨c,d,h3,h5⟩
theorem gk.bld {σ:AH O} {el:Nat} {a:SA} {l:List NV} (h:ya σ el 7 NV.row a l):gk σ a l:=by
 obtain ⟨vs,h1,h2⟩:=h.it
 refine ⟨⟨vs,h1.rd,fun i x hx=>?_⟩,h1.lt⟩
 obtain ⟨c,d,h3,_,h5⟩:=MB h2 hx
 exact ⟨c,d,h3,h5⟩
structure FRd (σ:AH O) (F:FV) (v:AV):Prop where
 it:∃ a b c,v=.agg [.sl a F.nodes.length,.sl b F.roots.length,.sl c F.bn.length] ∧ gk σ a F.nodes ∧ bF .i64 b F.roots ∧ bF .i64 c F.bn
theorem FRd.im {F:FV} {v:AV} (h:F.At v) (σ:AH O):FRd σ F v:=by
 obtain ⟨a,b,c,e,h1,h2,h3⟩:=h.it
 exact ⟨a,b,c,e,gk.im h1 σ,h2,h3⟩
theorem aiB (x m:Int):(if x > m then x else m)=max m x:=by
 rw [Int.max_def]
 split<;>split<;>omega
theorem JP {n i met:Int} {x:NV} {N:List NV}:lW n i met (x::N)=(decide (i<met) && (Ob x.h && (decide ((x.P.length:Int)=x.h.p) && (decide ((x.R.length:Int)=x.h.r) && (match zF n 0 met x.P with |none=>false |some m=>lW n (i+1) m N))))):=rfl
end Go.Abs.Tryz
namespace Go.Abs.Tryz
open Go Go.Abs
variable {O:Type}
theorem ahn {p q v:AV} {σ:AH O}:JA [(42,cW)] (some (.func 42,[],[p,q])) [v] σ=cW [v,p,q] σ:=rfl
theorem MC {σ:AH O} {p q el el':Nat} {lo hi x:Int} (hp:σ.ai p=some (.cells true el [.i .i64 lo])) (hq:σ.ai q=some (.cells true el' [.i .i64 hi])):
  cW [.i .i64 x,.p (some (.n p,0)),.p (some (.n q,0))] σ=some (.b (!decide (lo ≤ x ∧ x ≤ hi)),σ):=by
 have f0:(false == false)=true:=rfl
 have f1:(true == false)=false:=rfl
 by_cases c1:x<lo
 ·have d1:decide (x<lo)=true:=decide_eq_true c1
  simp (maxSteps:=2000000) -implicitDefEqProofs (disch:=(first |omega |rfl |assumption |(simp only [aK];first |omega |assumption))) only [cW,fO,hp,hq,d1,f0,f1,Nat.reduceAdd,Nat.reduceMul,Nat.reduceLT,Int.reduceToNat,Int.reduceAdd,Int.reduceSub,Int.reduceMul,aB,aX]
 ·have d1:decide (x<lo)=false:=decide_eq_false c1
  by_cases c2:x > hi
  ·have d2:decide (x > hi)=true:=decide_eq_true c2
   simp (maxSteps:=2000000) -implicitDefEqProofs (disch:=(first |omega |rfl |assumption |(simp only [aK];first |omega |assumption))) only [cW,fO,hp,hq,d1,d2,f0,f1,Nat.reduceAdd,Nat.reduceMul,Nat.reduceLT,Int.reduceToNat,Int.reduceAdd,Int.reduceSub,Int.reduceMul,aB,aX]
  ·have d2:decide (x > hi)=false:=decide_eq_false c2
   simp (maxSteps:=2000000) -implicitDefEqProofs (disch:=(first |omega |rfl |assumption |(simp only [aK];first |omega |assumption))) only [cW,fO,hp,hq,d1,d2,f0,f1,Nat.reduceAdd,Nat.reduceMul,Nat.reduceLT,Int.reduceToNat,Int.reduceAdd,Int.reduceSub,Int.reduceMul,aB,aX]
abbrev oV (lo hi:Int) (l:List Int):Bool:=l.all fun k=>decide (lo ≤ k ∧ k ≤ hi)
theorem abz {σ:AH O} {a:SA} {l:List Int} {p q el el':Nat} {lo hi:Int} (hl:bF .i64 a l) (hs:l.length ≤ 1000000) (hp:σ.ai p=some (.cells true el [.i .i64 lo])) (hq:σ.ai q=some (.cells true el' [.i .i64 hi])):
  Ok (cO [.sl a l.length,.fn (some (.func 42,[],[.p (some (.n p,0)),.p (some (.n q,0))]))] σ) fun r=>r.2=σ ∧ ∃ k,r.1=.i .i64 k ∧ decide (k ≥ 0) = !oV lo hi l:=by
 simp (maxSteps:=2000000) -implicitDefEqProofs (disch:=(first |omega |rfl |assumption |(simp only [aK];first |omega |assumption))) only [cO,dA,Nat.reduceAdd,Nat.reduceMul,Nat.reduceLT,Int.reduceToNat,Int.reduceAdd,Int.reduceSub,Int.reduceMul,aB,aX]
 refine Ok.bK (Q:=fun r=>match r with
   |.inl s=>s.2=σ ∧ oV lo hi l=true
   |.inr r=>r.2=σ ∧ ∃ k,r.1=.i .i64 k ∧ k ≥ 0 ∧ oV lo hi l=false) ?_ (fun s hs=>?_) (fun r hr=>?_)
 ·refine Ok.count l.length (fun k s=>s=([.i .i64 (k:Int)],σ) ∧ ∀ j,j<k → ∀ x,l[j]? = some x → lo ≤ x ∧ x ≤ hi) ?_ ?_ ⟨rfl,fun j hj=>by omega⟩
  ·rintro k _ hk ⟨rfl,h1⟩
   have hx:=List.getElem?_eq_getElem hk
   have hm:=List.getElem_mem hk
   obtain ⟨bb,oo,r1,ld⟩:=BP hl hx
   have ld:=ld O σ
   generalize l[k]=x at*
   have dk:decide ((k:Int)<(l.length:Int))=true:=decide_eq_true (by omega)
   have d0:decide ((0:Int) ≤ (k:Int))=true:=decide_eq_true (by omega)
   cases c:decide (lo ≤ x ∧ x ≤ hi) with
   |true=>
    simp (maxSteps:=2000000) -implicitDefEqProofs (disch:=(first |omega |rfl |assumption |(simp only [aK];first |omega |assumption))) only [cq,dk,d0,r1,ld,Int.toNat_natCast,ahn,MC hp hq,c,Nat.reduceAdd,Nat.reduceMul,Nat.reduceLT,Int.reduceToNat,Int.reduceAdd,Int.reduceSub,Int.reduceMul,aB,aX]
    refine U.2 ⟨rfl,fun j hj y hy=>?_⟩
    by_cases e:j=k
    ·subst e
     rw [hx] at hy;cases hy;exact of_decide_eq_true c
    ·exact h1 j (by omega) y hy
   |false=>
    simp (maxSteps:=2000000) -implicitDefEqProofs (disch:=(first |omega |rfl |assumption |(simp only [aK];first |omega |assumption))) only [cq,dk,d0,r1,ld,Int.toNat_natCast,ahn,MC hp hq,c,Nat.reduceAdd,Nat.reduceMul,Nat.reduceLT,Int.reduceToNat,Int.reduceAdd,Int.reduceSub,Int.reduceMul,aB,aX]
    refine U.2 ⟨rfl,_,rfl,by omega,?_⟩
    cases h:oV lo hi l with
    |false=>rfl
    |true=>exact absurd (of_decide_eq_true (List.all_eq_true.1 h _ hm)) (of_decide_eq_false c)
  ·rintro _ ⟨rfl,h1⟩
   have dk:decide ((l.length:Int)<(l.length:Int))=false:=decide_eq_false (by omega)
   simp (maxSteps:=2000000) -implicitDefEqProofs (disch:=(first |omega |rfl |assumption |(simp only [aK];first |omega |assumption))) only [cq,dk,Nat.reduceAdd,Nat.reduceMul,Nat.reduceLT,Int.reduceToNat,Int.reduceAdd,Int.reduceSub,Int.reduceMul,aB,aX]
   refine U.2 ⟨rfl,List.all_eq_true.2 fun x hx=>decide_eq_true ?_⟩
   obtain ⟨j,hj⟩:=List.mem_iff_getElem?.1 hx
   exact h1 j (List.getElem?_eq_some_iff.1 hj).1 x hj
 ·obtain ⟨h1,h2⟩:=hs
  exact U.2 ⟨h1,-1,rfl,by rw [h2];rfl⟩
 ·obtain ⟨h1,k,h2,h3,h4⟩:=hr
  exact ⟨h1,k,h2,by rw [h4,decide_eq_true h3];rfl⟩
theorem ID {σ:AH O} {a:SA} {l:List Int} {lo hi:Int} (hl:bF .i64 a l) (hs:l.length ≤ 1000000):
  Ok (mc [.sl a l.length,.i .i64 lo,.i .i64 hi] σ) fun r=>r.1=.b (oV lo hi l) ∧ Ext σ r.2:=by
 simp (maxSteps:=2000000) -implicitDefEqProofs (disch:=(first |omega |rfl |assumption |(simp only [aK];first |omega |assumption))) only [mc,rV,dt,cX,Nat.reduceAdd,Nat.reduceMul,Nat.reduceLT,Int.reduceToNat,Int.reduceAdd,Int.reduceSub,Int.reduceMul,aB,aX]
 generalize dP:((σ.bump 2).put σ.next _).put (σ.next+1) _=aJ
 obtain ⟨E1,n1,b1,b2⟩:=aqb dP
 clear dP
 refine Ok.step (abz hl hs b1 b2) fun r ⟨e1,k,e2,e3⟩=>?_
 obtain ⟨r,aP⟩:=r
 simp only at e1 e2
 subst e1 e2
 simp (maxSteps:=2000000) -implicitDefEqProofs (disch:=(first |omega |rfl |assumption |(simp only [aK];first |omega |assumption))) only [e3,Nat.reduceAdd,Nat.reduceMul,Nat.reduceLT,Int.reduceToNat,Int.reduceAdd,Int.reduceSub,Int.reduceMul,aB,aX]
 refine U.2 ⟨?_,E1⟩
 cases oV lo hi l<;>rfl
def tT:Int → List Int → Option Int
 |met,[]=>some met
 |met,k::l=>if k ≤ met+1 then tT (max met k) l else none
theorem abA {met:Int} {l:List Int} {k:Nat} {x:Int} (hx:l[k]? = some x):tT met (l.drop k)=if x ≤ met+1 then tT (max met x) (l.drop (k+1)) else none:=by
 have hk:k<l.length:=(List.getElem?_eq_some_iff.1 hx).1
 have he:l[k]=x:=(List.getElem?_eq_some_iff.1 hx).2
 rw [List.drop_eq_getElem_cons hk,he]
 rfl
theorem Wx {lo hi k:Int} {l:List Int}:oV lo hi (k::l)=(decide (lo ≤ k ∧ k ≤ hi) && oV lo hi l):=rfl
theorem Fx {n least:Int}:∀ {l:List Int} {met:Int},zF n least met l=bif oV least n l then tT met l else none
 |[],met=>rfl
 |k::l,met=>by
  rw [Wx]
  simp only [zF,tT]
  by_cases c1:least ≤ k ∧ k ≤ n
  ·rw [decide_eq_true c1,Bool.true_and,Fx (l:=l)]
   by_cases c2:k ≤ met+1
   ·rw [if_pos ⟨c1.1,c1.2,c2⟩,if_pos c2]
   ·rw [if_neg (fun h=>c2 h.2.2),if_neg c2];cases oV least n l<;>rfl
  ·rw [decide_eq_false c1,Bool.false_and,if_neg (fun h=>c1 ⟨h.1,h.2.1⟩)];rfl
theorem XK {σ:AH O} {a:SA} {l:List Int} {p el n:Nat} {m:Int} (hl:bF .i64 a l) (hs:l.length ≤ 1000000) (hn:n ≤ 1000000) (hp:σ.ai p=some (.cells true el [.i .i64 m])) (hm:0 ≤ m ∧ m ≤ n) (hle:oV 0 n l=true):
  Ok (j5 [.sl a l.length,.p (some (.n p,0))] σ) fun r=>r.1=.b (tT m l).isSome ∧ dE [p] σ r.2 ∧ ∀ m',tT m l=some m' → r.2.ai p=some (.cells true el [.i .i64 m']) ∧ 0 ≤ m' ∧ m' ≤ n:=by
 simp (maxSteps:=2000000) -implicitDefEqProofs (disch:=(first |omega |rfl |assumption |(simp only [aK];first |omega |assumption))) only [j5,pW,Nat.reduceAdd,Nat.reduceMul,Nat.reduceLT,Int.reduceToNat,Int.reduceAdd,Int.reduceSub,Int.reduceMul,aB,aX]
 refine Ok.bK (Q:=fun r=>match r with
   |.inl s=>∃ m',tT m l=some m' ∧ s.2.ai p=some (.cells true el [.i .i64 m']) ∧ 0 ≤ m' ∧ m' ≤ n ∧ dE [p] σ s.2
   |.inr r=>r.1=.b false ∧ tT m l=none ∧ dE [p] σ r.2) ?_ (fun s hs=>?_) (fun r hr=>?_)
 ·refine Ok.count l.length (fun k s=>∃ m' aj,s=([.i .i64 (k:Int)],aj) ∧ tT m l=tT m' (l.drop k) ∧ aj.ai p=some (.cells true el [.i .i64 m']) ∧ 0 ≤ m' ∧ m' ≤ n ∧ dE [p] σ aj) ?_ ?_ ⟨m,σ,rfl,rfl,hp,hm.1,hm.2,dE.refl _ _⟩
  ·rintro k _ hk ⟨m',aj,rfl,h1,h2,h3,h4,C⟩
   have hx:=List.getElem?_eq_getElem hk
   have hr:=of_decide_eq_true (List.all_eq_true.1 hle _ (List.getElem_mem hk))
   obtain ⟨bb,oo,r1,ld⟩:=BP hl hx
   have ld:=ld O aj
   rw [abA hx] at h1
   generalize l[k]=x at*
   have dk:decide ((k:Int)<(l.length:Int))=true:=decide_eq_true (by omega)
   have d0:decide ((0:Int) ≤ (k:Int))=true:=decide_eq_true (by omega)
   have ew:IntKind.i64.wrap (m'+1)=m'+1:=bJ (by omega) (by omega)
   by_cases c1:x > m'+1
   ·have d1:decide (x > m'+1)=true:=decide_eq_true c1
    simp (maxSteps:=2000000) -implicitDefEqProofs (disch:=(first |omega |rfl |assumption |(simp only [aK];first |omega |assumption))) only [jn,dk,d0,r1,ld,h2,ew,d1,Int.toNat_natCast,Nat.reduceAdd,Nat.reduceMul,Nat.reduceLT,Int.reduceToNat,Int.reduceAdd,Int.reduceSub,Int.reduceMul,aB,aX]
    exact U.2 ⟨rfl,by rw [h1,if_neg (by omega)],C⟩
   have d1:decide (x > m'+1)=false:=decide_eq_false c1
   simp (maxSteps:=2000000) -implicitDefEqProofs (disch:=(first |omega |rfl |assumption |(simp only [aK];first |omega |assumption))) only [jn,dk,d0,r1,ld,h2,ew,d1,Int.toNat_natCast,Nat.reduceAdd,Nat.reduceMul,Nat.reduceLT,Int.reduceToNat,Int.reduceAdd,Int.reduceSub,Int.reduceMul,aB,aX]
   refine U.2 ⟨max m' x,_,rfl,by rw [h1,if_pos (by omega)],?_,by omega,by omega,C.put (by simp) _⟩
   rw [cH,aiB]
  ·rintro _ ⟨m',aj,rfl,h1,h2,h3,h4,C⟩
   rw [List.drop_length] at h1
   have dk:decide ((l.length:Int)<(l.length:Int))=false:=decide_eq_false (by omega)
   simp (maxSteps:=2000000) -implicitDefEqProofs (disch:=(first |omega |rfl |assumption |(simp only [aK];first |omega |assumption))) only [jn,dk,Nat.reduceAdd,Nat.reduceMul,Nat.reduceLT,Int.reduceToNat,Int.reduceAdd,Int.reduceSub,Int.reduceMul,aB,aX]
   exact U.2 ⟨m',h1,h2,h3,h4,C⟩
 ·obtain ⟨m',h1,h2,h3,h4,C⟩:=hs
  exact U.2 ⟨by rw [h1];rfl,C,fun m2 e=>by rw [h1] at e;cases e;exact ⟨h2,h3,h4⟩⟩
 ·obtain ⟨h1,h2,C⟩:=hr
  exact ⟨by rw [h1,h2];rfl,C,fun m2 e=>by rw [h2] at e;cases e⟩
theorem Zk {σ:AH O} {a:SA} {l:List NV} {s16:List AV × AH O} {sa:SA} {el:Nat} {m:Int} (hp:σ.ai s16.2.next=some (.cells true el [.i .i64 m])) (bS:s16.2.next<σ.next)
  (hl:gk σ a l) (hpa:s16.2.next∉SA.bk a) (hs:l.length ≤ 1000000) (hf:∀ x∈l,x.P.length ≤ 1000000) (hm:0 ≤ m ∧ m ≤ l.length):
  Ok (aQ (S:=List AV × AH O) (T:=(List AV × AH O) ⊕ (AV × AH O)) (me (a,l.length) s16 cD mc (sa,l.length) j5) ([.i .i64 0],σ)) fun r=>match r with
   |.inl s=>s.1=[] ∧ lW l.length 0 m l=true ∧ dE [s16.2.next] σ s.2
   |.inr r=>r.1=.b false ∧ lW l.length 0 m l=false ∧ dE [s16.2.next] σ r.2:=by
 refine Ok.count l.length (fun k s=>∃ m' aj,s=([.i .i64 (k:Int)],aj) ∧ lW l.length 0 m l=lW l.length k m' (l.drop k) ∧ 0 ≤ m' ∧ m' ≤ l.length ∧ dE [s16.2.next] σ aj ∧ aj.ai s16.2.next=some (.cells true el [.i .i64 m'])) ?_ ?_ ⟨m,σ,rfl,rfl,hm.1,hm.2,dE.refl _ _,hp⟩
 ·rintro k _ hk ⟨m,σ,rfl,h1,h2,h3,C,hp⟩
  have hx:=List.getElem?_eq_getElem hk
  have hxP:=hf _ (List.getElem_mem hk)
  obtain ⟨bb,oo,c,d,r1,hc,l0,l1,l2,l3,l4,l5,l6⟩:=(hl.of (C.bump 1).next fun b hb=>(C.bump 1).ai b (hl.lt b hb) (by simp;intro h;exact hpa (h▸hb))).node hx
  rw [List.drop_eq_getElem_cons hk,JP] at h1
  generalize l[k]=x at*
  have bS:=Nat.lt_of_lt_of_le bS C.next
  have f0:(false == false)=true:=rfl
  have f1:(true == false)=false:=rfl
  have dk:decide ((k:Int)<(l.length:Int))=true:=decide_eq_true (by omega)
  have d0:decide ((0:Int) ≤ (k:Int))=true:=decide_eq_true (by omega)
  simp (maxSteps:=2000000) -implicitDefEqProofs (disch:=(first |omega |rfl |assumption |(simp only [aK];first |omega |assumption))) only [me,dk,d0,r1,l0,l1,l2,l3,l4,l5,l6,Int.toNat_natCast,Nat.reduceAdd,Nat.reduceMul,Nat.reduceLT,Int.reduceToNat,Int.reduceAdd,Int.reduceSub,Int.reduceMul,aB,aX]
  generalize dP:(σ.bump 1).put σ.next _=aP
  obtain ⟨E2,n2,b2⟩:=Ku dP
  clear dP
  have C2:=C.trans E2.chg
  have W7:=(E2.ai _ bS).trans hp
  by_cases c1:(k:Int) ≥ m
  ·have d1:decide ((k:Int) ≥ m)=true:=decide_eq_true c1
   simp (maxSteps:=2000000) -implicitDefEqProofs (disch:=(first |omega |rfl |assumption |(simp only [aK];first |omega |assumption))) only [hp,d1,f0,f1,Nat.reduceAdd,Nat.reduceMul,Nat.reduceLT,Int.reduceToNat,Int.reduceAdd,Int.reduceSub,Int.reduceMul,aB,aX]
   exact U.2 ⟨rfl,by rw [h1,decide_eq_false (by omega)];rfl,C2⟩
  have d1:decide ((k:Int) ≥ m)=false:=decide_eq_false c1
  rw [decide_eq_true (show (k:Int)<m by omega),Bool.true_and] at h1
  simp (maxSteps:=2000000) -implicitDefEqProofs (disch:=(first |omega |rfl |assumption |(simp only [aK];first |omega |assumption))) only [hp,d1,f0,f1,Nat.reduceAdd,Nat.reduceMul,Nat.reduceLT,Int.reduceToNat,Int.reduceAdd,Int.reduceSub,Int.reduceMul,aB,aX]
  refine Ok.step (Zj aP x.h) fun q ⟨⟨cc,g1,g2⟩,E3⟩=>?_
  obtain ⟨q,cE⟩:=q
  simp only at g1 E3
  subst g1
  have b3:=(E3.ai _ (by omega)).trans b2
  have hp3:=(E3.ai _ (by omega)).trans W7
  have C3:=C2.trans E3.chg
  cases hh:Ob x.h with
  |false=>
   rw [hh] at g2 h1
   simp (maxSteps:=2000000) -implicitDefEqProofs (disch:=(first |omega |rfl |assumption |(simp only [aK];first |omega |assumption))) only [g2,f0,f1,Nat.reduceAdd,Nat.reduceMul,Nat.reduceLT,Int.reduceToNat,Int.reduceAdd,Int.reduceSub,Int.reduceMul,aB,aX]
   exact U.2 ⟨rfl,by rw [h1];rfl,C3⟩
  |true=>
  rw [hh] at g2
  rw [hh,Bool.true_and] at h1
  by_cases c2:(x.P.length:Int)=x.h.p
  case neg=>
   have d2:((x.P.length:Int) == x.h.p)=false:=beq_eq_false_iff_ne.2 c2
   simp (maxSteps:=2000000) -implicitDefEqProofs (disch:=(first |omega |rfl |assumption |(simp only [aK];first |omega |assumption))) only [g2,b3,d2,f0,f1,Nat.reduceAdd,Nat.reduceMul,Nat.reduceLT,Int.reduceToNat,Int.reduceAdd,Int.reduceSub,Int.reduceMul,aB,aX]
   exact U.2 ⟨rfl,by rw [h1,decide_eq_false c2];rfl,C3⟩
  have d2:((x.P.length:Int) == x.h.p)=true:=beq_iff_eq.2 c2
  rw [decide_eq_true c2,Bool.true_and] at h1
  by_cases c3:(x.R.length:Int)=x.h.r
  case neg=>
   have d3:((x.R.length:Int) == x.h.r)=false:=beq_eq_false_iff_ne.2 c3
   simp (maxSteps:=2000000) -implicitDefEqProofs (disch:=(first |omega |rfl |assumption |(simp only [aK];first |omega |assumption))) only [g2,b3,d2,d3,f0,f1,Nat.reduceAdd,Nat.reduceMul,Nat.reduceLT,Int.reduceToNat,Int.reduceAdd,Int.reduceSub,Int.reduceMul,aB,aX]
   exact U.2 ⟨rfl,by rw [h1,decide_eq_false c3];rfl,C3⟩
  have d3:((x.R.length:Int) == x.h.r)=true:=beq_iff_eq.2 c3
  rw [decide_eq_true c3,Bool.true_and,Fx] at h1
  simp (maxSteps:=2000000) -implicitDefEqProofs (disch:=(first |omega |rfl |assumption |(simp only [aK];first |omega |assumption))) only [g2,b3,d2,d3,f0,f1,Nat.reduceAdd,Nat.reduceMul,Nat.reduceLT,Int.reduceToNat,Int.reduceAdd,Int.reduceSub,Int.reduceMul,aB,aX]
  refine Ok.step (ID (lo:=0) (hi:=(l.length:Int)) hc hxP) fun q ⟨g3,E4⟩=>?_
  obtain ⟨q,ky⟩:=q
  simp only at g3 E4
  subst g3
  have n3:=E3.next
  have b4:=(E4.ai _ (by omega)).trans b3
  have hp4:=(E4.ai _ (by omega)).trans hp3
  have C4:=C3.trans E4.chg
  cases hw:oV 0 l.length x.P with
  |false=>
   rw [hw] at h1
   simp (maxSteps:=2000000) -implicitDefEqProofs (disch:=(first |omega |rfl |assumption |(simp only [aK];first |omega |assumption))) only [f0,f1,Nat.reduceAdd,Nat.reduceMul,Nat.reduceLT,Int.reduceToNat,Int.reduceAdd,Int.reduceSub,Int.reduceMul,aB,aX]
   exact U.2 ⟨rfl,by rw [h1];rfl,C4⟩
  |true=>
  rw [hw] at h1
  simp (maxSteps:=2000000) -implicitDefEqProofs (disch:=(first |omega |rfl |assumption |(simp only [aK];first |omega |assumption))) only [b4,f0,f1,Nat.reduceAdd,Nat.reduceMul,Nat.reduceLT,Int.reduceToNat,Int.reduceAdd,Int.reduceSub,Int.reduceMul,aB,aX]
  refine Ok.step (XK hc hxP hs hp4 ⟨h2,h3⟩ hw) fun q ⟨g4,C5,g5⟩=>?_
  obtain ⟨q,Dv⟩:=q
  simp only at g4 C5 g5
  subst g4
  cases hmm:tT m x.P with
  |none=>
   rw [hmm] at h1
   simp (maxSteps:=2000000) -implicitDefEqProofs (disch:=(first |omega |rfl |assumption |(simp only [aK];first |omega |assumption))) only [Option.isSome,f0,f1,Nat.reduceAdd,Nat.reduceMul,Nat.reduceLT,Int.reduceToNat,Int.reduceAdd,Int.reduceSub,Int.reduceMul,aB,aX]
   exact U.2 ⟨rfl,by rw [h1];rfl,C4.trans C5⟩
  |some m'=>
   rw [hmm] at h1
   obtain ⟨p1,p2,p3⟩:=g5 m' hmm
   simp (maxSteps:=2000000) -implicitDefEqProofs (disch:=(first |omega |rfl |assumption |(simp only [aK];first |omega |assumption))) only [Option.isSome,f0,f1,Nat.reduceAdd,Nat.reduceMul,Nat.reduceLT,Int.reduceToNat,Int.reduceAdd,Int.reduceSub,Int.reduceMul,aB,aX]
   exact U.2 ⟨m',Dv,rfl,h1,p2,p3,C4.trans C5,p1⟩
 ·rintro _ ⟨m,σ,rfl,h1,h2,h3,C,hp⟩
  rw [List.drop_length] at h1
  have dk:decide ((l.length:Int)<(l.length:Int))=false:=decide_eq_false (by omega)
  simp (maxSteps:=2000000) -implicitDefEqProofs (disch:=(first |omega |rfl |assumption |(simp only [aK];first |omega |assumption))) only [me,dk,Nat.reduceAdd,Nat.reduceMul,Nat.reduceLT,Int.reduceToNat,Int.reduceAdd,Int.reduceSub,Int.reduceMul,aB,aX]
  exact U.2 ⟨rfl,h1,C⟩
theorem wH {σ:AH O} {F:FV} {v:AV} (hF:FRd σ F v) (hf:F.Gk):Ok (bq [v] σ) fun r=>r.1=.b (ct F) ∧ Ext σ r.2:=by
 obtain ⟨a,b,c,rfl,h1,h2,h3⟩:=hF.it
 have q1:=hf.n
 have q2:=hf.r
 have q3:=hf.w
 have f0:(false == false)=true:=rfl
 have f1:(true == false)=false:=rfl
 have hR:ct F=((bif oV 1 F.nodes.length F.roots then (match tT 0 F.roots with |none=>false |some m=>lW F.nodes.length 0 m F.nodes) else false) && oV 0 F.nodes.length F.bn):=by
  unfold ct
  rw [Fx]
  cases oV 1 F.nodes.length F.roots<;>rfl
 simp (maxSteps:=2000000) -implicitDefEqProofs (disch:=(first |omega |rfl |assumption |(simp only [aK];first |omega |assumption))) only [bq,vf,Nat.reduceAdd,Nat.reduceMul,Nat.reduceLT,Int.reduceToNat,Int.reduceAdd,Int.reduceSub,Int.reduceMul,aB,aX]
 generalize dP:(σ.bump 1).put σ.next _=aJ
 obtain ⟨E1,n1,b1⟩:=Ku dP
 clear dP
 refine Ok.step (ID (lo:=1) (hi:=(F.nodes.length:Int)) h2 (by omega)) fun q ⟨g1,E2⟩=>?_
 obtain ⟨q,aP⟩:=q
 simp only at g1 E2
 subst g1
 have b2:=(E2.ai _ (by omega)).trans b1
 have E02:=E1.trans E2
 cases hw:oV 1 F.nodes.length F.roots with
 |false=>
  rw [hw] at hR
  simp (maxSteps:=2000000) -implicitDefEqProofs (disch:=(first |omega |rfl |assumption |(simp only [aK];first |omega |assumption))) only [f0,f1,Nat.reduceAdd,Nat.reduceMul,Nat.reduceLT,Int.reduceToNat,Int.reduceAdd,Int.reduceSub,Int.reduceMul,aB,aX]
  exact U.2 ⟨by rw [hR];rfl,E02⟩
 |true=>
 rw [hw] at hR
 simp (maxSteps:=2000000) -implicitDefEqProofs (disch:=(first |omega |rfl |assumption |(simp only [aK];first |omega |assumption))) only [b2,f0,f1,Nat.reduceAdd,Nat.reduceMul,Nat.reduceLT,Int.reduceToNat,Int.reduceAdd,Int.reduceSub,Int.reduceMul,aB,aX]
 refine Ok.step (ID (lo:=0) (hi:=(F.nodes.length:Int)) h3 (by omega)) fun q ⟨g1,E3⟩=>?_
 obtain ⟨q,cE⟩:=q
 simp only at g1 E3
 subst g1
 have n2:=E2.next
 have b3:=(E3.ai _ (by omega)).trans b2
 have E03:=E02.trans E3
 cases hw2:oV 0 F.nodes.length F.bn with
 |false=>
  rw [hw2,Bool.and_false] at hR
  simp (maxSteps:=2000000) -implicitDefEqProofs (disch:=(first |omega |rfl |assumption |(simp only [aK];first |omega |assumption))) only [f0,f1,Nat.reduceAdd,Nat.reduceMul,Nat.reduceLT,Int.reduceToNat,Int.reduceAdd,Int.reduceSub,Int.reduceMul,aB,aX]
  exact U.2 ⟨by rw [hR],E03⟩
 |true=>
 rw [hw2,Bool.and_true] at hR
 have n3:=E03.next
 have n3':=E3.next
 simp (maxSteps:=2000000) -implicitDefEqProofs (disch:=(first |omega |rfl |assumption |(simp only [aK];first |omega |assumption))) only [b3,f0,f1,Nat.reduceAdd,Nat.reduceMul,Nat.reduceLT,Int.reduceToNat,Int.reduceAdd,Int.reduceSub,Int.reduceMul,aB,aX]
 generalize dP:(cE.bump 1).put cE.next _=ky
 obtain ⟨E4,n4,b4⟩:=Ku dP
 clear dP
 have b4':=(E4.ai _ (by omega)).trans b3
 have E04:=E03.trans E4
 refine Ok.step (XK h2 (by omega) (n:=F.nodes.length) (by omega) b4 ⟨by omega,by omega⟩ (by
  refine List.all_eq_true.2 fun x hx=>?_
  have:=of_decide_eq_true (List.all_eq_true.1 hw x hx)
  exact decide_eq_true (by omega))) fun q ⟨g4,C5,g5⟩=>?_
 obtain ⟨q,Dv⟩:=q
 simp only at g4 C5 g5
 subst g4
 cases hmm:tT 0 F.roots with
 |none=>
  rw [hmm] at hR
  simp (maxSteps:=2000000) -implicitDefEqProofs (disch:=(first |omega |rfl |assumption |(simp only [aK];first |omega |assumption))) only [Option.isSome,f0,f1,Nat.reduceAdd,Nat.reduceMul,Nat.reduceLT,Int.reduceToNat,Int.reduceAdd,Int.reduceSub,Int.reduceMul,aB,aX]
  exact U.2 ⟨by rw [hR];rfl,dE.new E04 (by simp;omega) C5⟩
 |some m'=>
  rw [hmm] at hR
  obtain ⟨p1,p2,p3⟩:=g5 m' hmm
  have b5:=(C5.ai _ (by omega) (by simp;omega)).trans b4'
  have n5:=C5.next
  simp (maxSteps:=2000000) -implicitDefEqProofs (disch:=(first |omega |rfl |assumption |(simp only [aK];first |omega |assumption))) only [Option.isSome,b5,f0,f1,Nat.reduceAdd,Nat.reduceMul,Nat.reduceLT,Int.reduceToNat,Int.reduceAdd,Int.reduceSub,Int.reduceMul,aB,aX]
  refine Ok.bK (Zk (s16:=([.b false],cE)) p1 (show cE.next<Dv.next by omega) ((h1.ext E04).of C5.next fun b hb=>C5.ai b (by have:=h1.lt b hb;have:=E04.next;omega) (by simp;have:=h1.lt b hb;have:=E03.next;omega)) (fun h=>by have h9:cE.next<σ.next:=h1.lt _ h;have:=E03.next;omega) (by omega) (fun x hx=>by have:=(hf.x x hx).p;omega) ⟨p2,p3⟩) (fun s hs=>?_) (fun r hr=>?_)
  ·obtain ⟨k1,k2,k3⟩:=hs
   exact U.2 ⟨by rw [hR];show AV.b true=AV.b (lW _ 0 m' _);rw [k2],dE.new E04 (by simp;omega) (C5.trans k3)⟩
  ·obtain ⟨k1,k2,k3⟩:=hr
   exact ⟨by rw [k1,hR];show AV.b false=AV.b (lW _ 0 m' _);rw [k2],dE.new E04 (by simp;omega) (C5.trans k3)⟩
end Go.Abs.Tryz
