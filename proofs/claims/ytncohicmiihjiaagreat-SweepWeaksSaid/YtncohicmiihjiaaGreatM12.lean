/-
  Layers 11 and 12: fields of words, headers. No conditions.
-/
import Derived.Test.YtncohicmiihjiaaGreatS9w
import Derived.Test.YtncohicmiihjiaaGreatAbsSim
import Derived.Test.YtncohicmiihjiaaGreatAbsArgs
import Derived.Test.YtncohicmiihjiaaGreatAbsSl
import Derived.Test.YtncohicmiihjiaaGreatAbsNat
import Derived.Test.YtncohicmiihjiaaGreatAbsBits
set_option linter.unusedVariables false
set_option linter.unusedSimpArgs false
set_option linter.constructorNameAsVariable false
set_option linter.unusedSimpArgs false
set_option linter.unusedVariables false
set_option linter.unusedSectionVars false
set_option maxHeartbeats 1000000
namespace Go.Abs.Tryz
open Go Go.Abs
variable {O:Type}
def BH (a s:Nat):Int:=(((2 ^ s - 1)*2 ^ a:Nat):Int)
theorem JO:∀ s:Fin 65,∀ a:Fin 65,1<=s.val->a.val+s.val<=64->IntKind.u64.wrap (Int.fdiv 18446744073709551615 (2 ^ min ((64:Int) - (s.val:Int)).toNat 64)*2 ^ min (a.val:Int).toNat 64)=BH a.val s.val:=by decide +kernel
theorem Nz {a s:Nat} (hs:1<=s):BH a s≠0:=by
 unfold BH
 have h1:2<=2 ^ s:=by
  calc 2=2 ^ 1:=rfl
   _<=2 ^ s:=Nat.pow_le_pow_right (by decide) hs
 have h2:1<=2 ^ a:=Nat.one_le_two_pow
 have:1*1<=(2 ^ s - 1)*2 ^ a:=Nat.mul_le_mul (by omega) h2
 omega
theorem rJ {a s:Nat} (J:AH O) (h1:1<=s) (h2:a+s<=64):Ok (UZ [.agg [.i .i64 (a:Int),.i .i64 (s:Int)]] J) fun r=>r.1=.b true/\Ext J r.2:=by
 (unfold UZ qdo;refine cw @ge_iff_le.{0} ?_)
 exact U.2 ⟨by simp,rj⟩
theorem uS {a s:Nat} (J:AH O) (h1:1<=s) (h2:a+s<=64):Ok (U0 [.agg [.i .i64 (a:Int),.i .i64 (s:Int)]] J) fun r=>r.1=.i .u64 (BH a s)/\Ext J r.2:=by
 (unfold U0 qdt;refine bZ ?_)
 refine Ok.step (rJ _ h1 h2) fun r ⟨g1,g2⟩=>?_
 obtain ⟨q,J1⟩:=r
 simp only at g1 g2
 subst g1
 have hb:J1.aa J.next=some (.cells true 195 [.i .i64 (a:Int),.i .i64 (s:Int)]):=(g2.aa _ (by simp)).trans aH
 refine cw hb ?_
 have hv:=JO ⟨s,by omega⟩ ⟨a,by omega⟩ h1 h2
 simp only at hv
 exact U.2 ⟨by rw [<-hv];simp,(cN (by (have x0:=(g2).next);(try simp only [aO] at *);omega) (fun b hb=>by (have x0:=(g2).next);(try simp only [aO] at *);simp -implicitDefEqProofs (disch:=(first |omega |rfl |assumption |(simp only [aO];first |omega |assumption))) only [aA,bA,au,cB (g2)]))⟩
def bl (n:Nat):Nat:=if n=0 then 0 else Nat.log2 n+1
theorem Qs {n k:Nat} (h:n<2 ^ k):bl n<=k:=by
 unfold bl
 split
 ·omega
 ·rename_i h0
  exact (Nat.log2_lt h0).2 h
theorem JP:∀ i:Fin 256,(([0,1,2,2,3,3,3,3,4,4,4,4,4,4,4,4,5,5,5,5,5,5,5,5,5,5,5,5,5,5,5,5,6,6,6,6,6,6,6,6,6,6,6,6,6,6,6,6,6,6,6,6,6,6,6,6,6,6,6,6,6,6,6,6,7,7,7,7,7,7,7,7,7,7,7,7,7,7,7,7,7,7,7,7,7,7,7,7,7,7,7,7,7,7,7,7,7,7,7,7,7,7,7,7,7,7,7,7,7,7,7,7,7,7,7,7,7,7,7,7,7,7,7,7,7,7,7,7,8,8,8,8,8,8,8,8,8,8,8,8,8,8,8,8,8,8,8,8,8,8,8,8,8,8,8,8,8,8,8,8,8,8,8,8,8,8,8,8,8,8,8,8,8,8,8,8,8,8,8,8,8,8,8,8,8,8,8,8,8,8,8,8,8,8,8,8,8,8,8,8,8,8,8,8,8,8,8,8,8,8,8,8,8,8,8,8,8,8,8,8,8,8,8,8,8,8,8,8,8,8,8,8,8,8,8,8,8,8,8,8,8,8,8,8,8,8,8,8,8,8,8,8,8,8,8,8]:List UInt8)[i.val]?)=some (UInt8.ofNat (bl i.val)):=by decide +kernel
theorem Qt {n:Nat} (h:n<256):bl n<=8:=Qs (k:=8) h
theorem Ss {n:Nat} (h:256<=n) (h':n<65536):bl (n / 256)+8=bl n:=by
 unfold bl
 rw [if_neg (by omega),if_neg (by omega)]
 have e:n / 256=n >>> 8:=by rw [Nat.shiftRight_eq_div_pow]
 have h1:Nat.log2 n=Nat.log2 (n / 256)+8:=by
  have l0:n / 256≠0:=by omega
  have l1:=(Nat.log2_lt (k:=Nat.log2 (n / 256)+1) l0).1 (by omega)
  have l2:2 ^ Nat.log2 (n / 256)<=n / 256:=Nat.log2_self_le l0
  have l3:n<2 ^ (Nat.log2 (n / 256)+8+1):=by
   have:2 ^ (Nat.log2 (n / 256)+8+1)=2 ^ (Nat.log2 (n / 256)+1)*256:=by rw [show Nat.log2 (n / 256)+8+1=Nat.log2 (n / 256)+1+8 by omega,Nat.pow_add]
   rw [this]
   omega
  have l4:2 ^ (Nat.log2 (n / 256)+8)<=n:=by
   rw [Nat.pow_add]
   have:2 ^ Nat.log2 (n / 256)*2 ^ 8<=n / 256*256:=Nat.mul_le_mul l2 (Nat.le_refl _)
   omega
  have l5:=(Nat.log2_lt (n:=n) (by omega)).2 l3
  have l6:=(Nat.le_log2 (n:=n) (by omega)).2 l4
  omega
 omega
set_option maxRecDepth 100000 in
theorem St {n:Nat} (J:AH O) (h:n<65536):XO [.i .u64 (n:Int)] J=some (.i .i64 (bl n:Int),J):=by
 by_cases hn:n<256
 ·have ht:=JP ⟨n,hn⟩
  simp only at ht
  have hb:=Qt hn
  have e1:(IntKind.u8.wrap (n:Int)).toNat=n:=by rw [M0 (by omega)];simp
  have e2:((UInt8.ofNat (bl n)).toNat:Int)=bl n:=by simp;omega
  (unfold XO qd4;refine jE e1 ht e2 ?_)
  simp
 ·have bp:n / 256<256:=by omega
  have ht:=JP ⟨n / 256,bp⟩
  simp only at ht
  have hb:=Qt bp
  have e0:Int.fdiv (n:Int) (2 ^ 8)=((n / 256:Nat):Int):=by rw [Int.fdiv_eq_ediv_of_nonneg _ (by decide)];rfl
  have e1:(IntKind.u8.wrap ((n / 256:Nat):Int)).toNat=n / 256:=by rw [M0 (by omega),Int.toNat_natCast]
  have e2:((UInt8.ofNat (bl (n / 256))).toNat:Int)=bl (n / 256):=by simp;omega
  have e3:=Ss (by omega) h
  (unfold XO qd4;refine BA e0 e1 ht e2 ?_)
  simp;omega
theorem JQ {w n a s:Nat} (h1:1<=s) (h2:a+s<=64) (hw:w<2 ^ a) (hn:n<2 ^ s):bG .or .u64 (bG .andNot .u64 (w:Int) (BH a s)) (IntKind.u64.wrap ((n:Int)*2 ^ min (a:Int).toNat 64))=((w+n*2 ^ a:Nat):Int):=by
 have pa:2 ^ a*2 ^ s<=2 ^ 64:=by rw [<-Nat.pow_add];exact Nat.pow_le_pow_right (by decide) h2
 have ps:1<=2 ^ s:=Nat.one_le_two_pow
 have p0:1<=2 ^ a:=Nat.one_le_two_pow
 have w64:w<2 ^ 64:=Nat.lt_of_lt_of_le hw (Nat.pow_le_pow_right (by decide) (by omega))
 have AL:n*2 ^ a<2 ^ 64:=by
  have:n*2 ^ a<2 ^ s*2 ^ a:=Nat.mul_lt_mul_of_pos_right hn (by omega)
  rw [Nat.mul_comm (2 ^ s)] at this
  omega
 have m64:(2 ^ s - 1)*2 ^ a<2 ^ 64:=by
  have:(2 ^ s - 1)*2 ^ a<2 ^ s*2 ^ a:=Nat.mul_lt_mul_of_pos_right (by omega) (by omega)
  rw [Nat.mul_comm (2 ^ s)] at this
  omega
 have s64:w+n*2 ^ a<2 ^ 64:=by
  have h3:(n+1)*2 ^ a<=2 ^ s*2 ^ a:=Nat.mul_le_mul (by omega) (Nat.le_refl _)
  rw [Nat.mul_comm (2 ^ s),Nat.add_mul] at h3
  omega
 have e1:bG .andNot .u64 (w:Int) (BH a s)=(w:Int):=by
  show IntKind.u64.wrap (((BitVec.ofInt 64 (w:Int) &&& ~~~BitVec.ofInt 64 (BH a s)).toNat:Nat):Int)=_
  have:(BitVec.ofInt 64 (w:Int) &&& ~~~BitVec.ofInt 64 (BH a s))=BitVec.ofNat 64 w:=by
   unfold BH
   rw [BitVec.ofInt_natCast,BitVec.ofInt_natCast]
   apply BitVec.eq_of_getLsbD_eq
   intro i hi
   simp only [BitVec.getLsbD_and,BitVec.getLsbD_not,BitVec.getLsbD_ofNat,hi,decide_true,Bool.true_and]
   by_cases hia:i<a
   ·have:((2 ^ s - 1)*2 ^ a).testBit i=false:=by
     rw [Nat.testBit_mul_two_pow];simp;omega
    rw [this];simp
   ·have:w.testBit i=false:=Nat.testBit_lt_two_pow (Nat.lt_of_lt_of_le hw (Nat.pow_le_pow_right (by decide) (by omega)))
    rw [this];simp
  rw [this,BitVec.toNat_ofNat,Nat.mod_eq_of_lt w64]
  exact mA (by omega)
 have e2:IntKind.u64.wrap ((n:Int)*2 ^ min (a:Int).toNat 64)=((n*2 ^ a:Nat):Int):=by
  rw [Int.toNat_natCast,Nat.min_eq_left (by omega)]
  have:((n:Int)*2 ^ a)=((n*2 ^ a:Nat):Int):=by simp
  rw [this]
  exact mA (by omega)
 rw [e1,e2]
 show IntKind.u64.wrap (((BitVec.ofInt 64 (w:Int) ||| BitVec.ofInt 64 ((n*2 ^ a:Nat):Int)).toNat:Nat):Int)=_
 rw [BitVec.toNat_or,eK (by omega) (by omega),eK (by omega) (by omega),Int.toNat_natCast,Int.toNat_natCast]
 have e3:=Nat.two_pow_add_eq_or_of_lt (i:=a) (b:=w) hw n
 have e4:w ||| n*2 ^ a=w+n*2 ^ a:=by rw [Nat.or_comm,Nat.mul_comm n,<-e3,Nat.add_comm]
 rw [e4]
 exact mA ⟨Int.natCast_nonneg _,by omega⟩
theorem NA {w n a s:Nat} (J:AH O) (h1:1<=s) (h2:a+s<=64) (h3:s<=16) (hw:w<2 ^ a) (hn:n<2 ^ s):Ok (XP [.i .u64 (w:Int),.agg [.i .i64 (a:Int),.i .i64 (s:Int)],.i .u64 (n:Int)] J) fun r=>r.1=.aB [.i .u64 ((w+n*2 ^ a:Nat):Int),.i .i64 0]/\Ext J r.2:=by
 have hl:n<65536:=Nat.lt_of_lt_of_le hn (Nat.pow_le_pow_right (n:=2) (by decide) h3)
 have cy:=Qs hn
 (unfold XP qd9;refine bZ ?_)
 refine Ok.step (rJ _ h1 h2) fun r ⟨g1,g2⟩=>?_
 obtain ⟨q,J1⟩:=r
 simp only at g1 g2
 subst g1
 have hb:J1.aa J.next=some (.cells true 195 [.i .i64 (a:Int),.i .i64 (s:Int)]):=(g2.aa _ (by simp)).trans aH
 refine gh hb (St J1 hl) ?_
 refine Ok.step (uS _ h1 h2) fun r ⟨k1,k2⟩=>?_
 obtain ⟨q,J2⟩:=r
 simp only at k1 k2
 subst k1
 have fv:J2.aa J.next=some (.cells true 195 [.i .i64 (a:Int),.i .i64 (s:Int)]):=(k2.aa _ (by have:=g2.next;simp only [aO] at this;omega)).trans hb
 refine cw fv ?_
 exact U.2 ⟨by have hp:=JQ h1 h2 hw hn;rw [Int.toNat_natCast] at hp;rw [hp],(cN (by (have x0:=(g2).next);(have x1:=(k2).next);(try simp only [aO] at *);omega) (fun b hb=>by (have x0:=(g2).next);(have x1:=(k2).next);(try simp only [aO] at *);simp -implicitDefEqProofs (disch:=(first |omega |rfl |assumption |(simp only [aO];first |omega |assumption))) only [aA,bA,au,cB (g2),cB (k2)]))⟩
theorem JR {w a s:Nat} (h2:a+s<=64) (hw:w<2 ^ 64):Int.fdiv (bG .and .u64 (w:Int) (BH a s)) (2 ^ min (a:Int).toNat 64)=((w / 2 ^ a % 2 ^ s:Nat):Int):=by
 have pa:2 ^ a*2 ^ s<=2 ^ 64:=by rw [<-Nat.pow_add];exact Nat.pow_le_pow_right (by decide) h2
 have ps:1<=2 ^ s:=Nat.one_le_two_pow
 have p0:1<=2 ^ a:=Nat.one_le_two_pow
 have m64:(2 ^ s - 1)*2 ^ a<2 ^ 64:=by
  have:(2 ^ s - 1)*2 ^ a<2 ^ s*2 ^ a:=Nat.mul_lt_mul_of_pos_right (by omega) (by omega)
  rw [Nat.mul_comm (2 ^ s)] at this
  omega
 have e1:bG .and .u64 (w:Int) (BH a s)=((w / 2 ^ a % 2 ^ s*2 ^ a:Nat):Int):=by
  show IntKind.u64.wrap (((BitVec.ofInt 64 (w:Int) &&& BitVec.ofInt 64 (BH a s)).toNat:Nat):Int)=_
  unfold BH
  rw [BitVec.toNat_and,eK (by omega) (by omega),eK (by omega) (by omega),Int.toNat_natCast,Int.toNat_natCast]
  have e2:w &&& (2 ^ s - 1)*2 ^ a=w / 2 ^ a % 2 ^ s*2 ^ a:=by
   apply Nat.eq_of_testBit_eq
   intro i
   rw [Nat.testBit_and,Nat.testBit_mul_two_pow,Nat.testBit_mul_two_pow,Nat.testBit_mod_two_pow,Nat.testBit_div_two_pow,Nat.testBit_two_pow_sub_one]
   by_cases hi:a<=i
   ·simp only [hi,decide_true,Bool.true_and]
    rw [show i - a+a=i by omega,Bool.and_comm]
   ·simp [hi]
  rw [e2]
  have h4:w / 2 ^ a % 2 ^ s*2 ^ a<=w:=by
   have h5:w / 2 ^ a % 2 ^ s*2 ^ a<=w / 2 ^ a*2 ^ a:=Nat.mul_le_mul (Nat.mod_le _ _) (Nat.le_refl _)
   have h6:=Nat.div_mul_le_self w (2 ^ a)
   omega
  exact mA ⟨Int.natCast_nonneg _,by omega⟩
 rw [e1,Int.toNat_natCast,Nat.min_eq_left (by omega)]
 have e3:((2:Int) ^ a)=((2 ^ a:Nat):Int):=by simp
 rw [e3,Int.fdiv_eq_ediv_of_nonneg _ (Int.natCast_nonneg _),<-Int.natCast_ediv,Nat.mul_div_cancel _ (by omega)]
theorem yL {w a s:Nat} (J:AH O) (h1:1<=s) (h2:a+s<=64) (hw:w<2 ^ 64):Ok (U1 [.i .u64 (w:Int),.agg [.i .i64 (a:Int),.i .i64 (s:Int)]] J) fun r=>r.1=.i .u64 ((w / 2 ^ a % 2 ^ s:Nat):Int)/\Ext J r.2:=by
 (unfold U1 qln;refine bZ ?_)
 refine Ok.step (rJ _ h1 h2) fun r ⟨g1,g2⟩=>?_
 obtain ⟨q,J1⟩:=r
 simp only at g1 g2
 subst g1
 have hb:J1.aa J.next=some (.cells true 195 [.i .i64 (a:Int),.i .i64 (s:Int)]):=(g2.aa _ (by simp)).trans aH
 refine cw hb ?_
 refine Ok.step (uS _ h1 h2) fun r ⟨k1,k2⟩=>?_
 obtain ⟨q,J2⟩:=r
 simp only at k1 k2
 subst k1
 have fv:J2.aa J.next=some (.cells true 195 [.i .i64 (a:Int),.i .i64 (s:Int)]):=(k2.aa _ (by have:=g2.next;simp only [aO] at this;omega)).trans hb
 refine cw fv ?_
 exact U.2 ⟨by have hp:=JR (s:=s) h2 hw;rw [Int.toNat_natCast] at hp;rw [hp],(cN (by (have x0:=(g2).next);(have x1:=(k2).next);(try simp only [aO] at *);omega) (fun b hb=>by (have x0:=(g2).next);(have x1:=(k2).next);(try simp only [aO] at *);simp -implicitDefEqProofs (disch:=(first |omega |rfl |assumption |(simp only [aO];first |omega |assumption))) only [aA,bA,au,cB (g2),cB (k2)]))⟩
def FA:List (Nat × Nat):=[(0,12),(12,12),(24,5),(29,3),(32,1),(62,1)]
def FC (l:List (Nat × Nat)):List AV:=l.flatMap fun x=>[.i .i64 (x.1:Int),.i .i64 (x.2:Int)]
def xk (J:AH O) (a:SA):Prop:=∃ b el,a=.loc (.n b) 0 2/\J.aa b=some (.cells true el (FC FA))/\b<J.next
theorem xk.ext {J J':AH O} {a:SA} (h:xk J a) (e:Ext J J'):xk J' a:=by
 obtain ⟨b,el,h1,h2,h3⟩:=h
 exact ⟨b,el,h1,(e.aa _ h3).trans h2,Nat.lt_of_lt_of_le h3 e.next⟩
theorem xm (J:AH O):Ok (XQ [] J) fun r=>∃ a,r.1=.sl a 6/\xk r.2 a/\Ext J r.2/\∀ b∈SA.bk a,J.next<=b:=by
 (unfold XQ qdj;refine bZ ?_)
 have step:Ok (bC (qdi 12 12 5 3 1) ([.sl .nil 0,.i .i64 0,.i .i64 0],(J.az 1).put J.next (.cells true 232 [.i .i64 12,.i .i64 12,.i .i64 5,.i .i64 3,.i .i64 1]))) fun r=>∃ a,r.1=[.sl a 5]/\aY r.2 195 2 a 5 (FC (FA.take 5))/\Ext J r.2/\∀ b∈SA.bk a,J.next<=b:=by
  refine Ok.count 5 (fun k s=>∃ a,s.1=[.sl a k,.i .i64 ((((FA.take 5)[k]?).getD (33,0)).1:Int),.i .i64 (k:Int)]/\aY s.2 195 2 a k (FC (FA.take k))/\Ext J s.2/\∀ b∈SA.bk a,J.next<=b) ?_ ?_ ?_
  ·rintro k ⟨_,J1⟩ hk ⟨a,rfl,o,e,hb⟩
   have bp:=o.lt
   rcases (by omega:k=0 ∨ k=1 ∨ k=2 ∨ k=3 ∨ k=4) with rfl |rfl |rfl |rfl |rfl
   all_goals
    simp only [FA,FC,List.take_succ_cons,List.take_zero,List.flatMap_cons,List.flatMap_nil,List.append_nil,List.cons_append,List.nil_append,List.getElem?_cons_zero,List.getElem?_cons_succ,List.getElem?_nil,Option.getD_none,Option.getD_some] at o ⊢
    simp (maxSteps:=2000000) -implicitDefEqProofs (disch:=(first |omega |rfl |assumption |(simp only [aO];first |omega |assumption))) only [qdi,Nat.reduceLeDiff,Nat.reduceAdd,Nat.reduceMul,Nat.reduceLT,Int.reduceToNat,Int.reduceAdd,Int.reduceSub,Int.reduceMul,eA,gM]
    refine Ok.step (jf (nid:=J1.next+1) (aY.of o (by simp) (fun b dI=>by have:=bp b dI;simp only at this;exact hU)) (fun h=>by have:=bp _ h;simp only at this;omega) (by simp) rfl) fun r ⟨a',g1,g2,g3,g4,g5⟩=>?_
    obtain ⟨q,J2⟩:=r
    simp only at g1 g2 g3 g4
    subst g1
    have e1:=e.next
    simp only [aO] at g3 e1
    refine bZ ?_
    refine U.2 ⟨a',rfl,g2,⟨by simp only;omega,fun b dI=>?_⟩,fun b dI=>by have:=g5 b dI;omega⟩
    have e2:=e.aa b dI
    simp only at e2 ⊢
    rw [g4 b (by omega) (fun h=>by have:=hb b h;omega),<-e2]
    exact hU
  ·rintro ⟨_,J1⟩ ⟨a,rfl,o,e,hb⟩
   (unfold qdi;refine bZ ?_)
   exact U.2 ⟨a,rfl,o,e,hb⟩
  ·exact ⟨.nil,rfl,aY.nil _ _ _,rj,by simp [SA.bk]⟩
 refine Ok.step step fun r ⟨a,g1,o,e,hb⟩=>?_
 obtain ⟨q,J1⟩:=r
 simp only at g1 o e
 subst g1
 have tf:=e.next
 refine bZ ?_
 have bp:=o.lt
 refine Ok.step (jf (nid:=J1.next+1) (aY.of o (by simp) (fun b dI=>by have:=bp b dI;exact hU)) (fun h=>by have:=bp _ h;omega) (by simp) rfl) fun r ⟨a',g1,g2,g3,g4,g5⟩=>?_
 obtain ⟨q,J2⟩:=r
 simp only at g1 g2 g3 g4
 subst g1
 simp only [aO] at g3
 refine bZ ?_
 obtain ⟨b,ha,FQ,cy⟩:=g2.loc (by decide)
 refine U.2 ⟨a',rfl,⟨b,_,ha,FQ,cy⟩,⟨by simp only;omega,fun c hc=>?_⟩,fun c hc=>by have:=g5 c hc;omega⟩
 have e2:=e.aa c hc
 simp only at e2 ⊢
 rw [g4 c (by omega) (fun h=>by have:=hb c h;omega),<-e2]
 exact hU
def MA:List Int:=[0,4095,16777215,536870911,4294967295,8589934591,4611686027017322495]
theorem AM:∀ k:Fin 6,∃ x,FA[k.val]? = some x/\(1<=x.2/\x.1+x.2<=64)/\bG .and .u64 (MA.getD k.val 0) (BH x.1 x.2)=0/\bG .or .u64 (MA.getD k.val 0) (BH x.1 x.2)=MA.getD (k.val+1) 0:=by
 intro k
 match k with
 |⟨0,_⟩=>exact ⟨_,rfl,by decide,by kernel_rfl,by kernel_rfl⟩
 |⟨1,_⟩=>exact ⟨_,rfl,by decide,by kernel_rfl,by kernel_rfl⟩
 |⟨2,_⟩=>exact ⟨_,rfl,by decide,by kernel_rfl,by kernel_rfl⟩
 |⟨3,_⟩=>exact ⟨_,rfl,by decide,by kernel_rfl,by kernel_rfl⟩
 |⟨4,_⟩=>exact ⟨_,rfl,by decide,by kernel_rfl,by kernel_rfl⟩
 |⟨5,_⟩=>exact ⟨_,rfl,by decide,by kernel_rfl,by kernel_rfl⟩
theorem JS {k:Nat} {x:Nat × Nat} (h:FA[k]? = some x):(FC FA)[k*2]? = some (.i .i64 (x.1:Int))/\(FC FA)[k*2+1]? = some (.i .i64 (x.2:Int)):=by
 have hk:k<6:=(List.getElem?_eq_some_iff.1 h).1
 rcases (by omega:k=0 ∨ k=1 ∨ k=2 ∨ k=3 ∨ k=4 ∨ k=5) with rfl |rfl |rfl |rfl |rfl |rfl<;>(cases h;exact ⟨rfl,rfl⟩)
theorem JT {J:AH O} {a:SA} (h:xk J a):Ok (qd0 [.sl a 6] J) fun r=>r.1=.b true/\Ext J r.2:=by
 (unfold qd0 qdz;refine bZ ?_)
 refine Ok.cv (Q:=fun r=>∃ J1,r=.inl ([],J1)/\Ext J J1) (Ok.count 6 (fun k s=>s.1=[.i .u64 (MA.getD k 0),.i .i64 (k:Int)]/\Ext J s.2) ?_ ?_ ⟨rfl,Ext.refl _⟩) ?_ ?_
 ·rintro k ⟨_,J1⟩ hk ⟨rfl,e⟩
  obtain ⟨x,hx,hr,m1,m2⟩:=AM ⟨k,hk⟩
  simp only at hx m1 m2
  obtain ⟨b,el,rfl,hb,bp⟩:=h.ext e
  obtain ⟨c1,c2⟩:=JS hx
  have db:=Nz (a:=x.1) hr.1
  simp only at hb bp
  have t1:(k:Int).toNat*2=k*2:=by omega
  (unfold qdy SA.ref;refine BA hb t1 c1 c2 ?_)
  refine Ok.step (uS _ hr.1 hr.2) fun r ⟨g1,g2⟩=>?_
  obtain ⟨q,J2⟩:=r
  simp only at g1 g2
  subst g1
  have n1:(BH x.1 x.2 == 0)=false:=by simp [db]
  refine jE n1 m1 m2 ?_
  refine U.2 ⟨rfl,e.trans (cN (by (have x0:=(g2).next);(try simp only [aO] at *);omega) (fun b hb=>by (have x0:=(g2).next);(try simp only [aO] at *);simp -implicitDefEqProofs (disch:=(first |omega |rfl |assumption |(simp only [aO];first |omega |assumption))) only [aA,bA,au,cB (g2)]))⟩
 ·rintro ⟨_,J1⟩ ⟨rfl,e⟩
  (unfold qdy;refine bZ ?_)
  exact U.2 ⟨J1,rfl,e⟩
 ·rintro _ ⟨J1,hh,e⟩
  cases hh
  exact U.2 ⟨rfl,e⟩
 ·rintro _ ⟨J1,hh,e⟩
  cases hh
end Go.Abs.Tryz
namespace Go.Abs.Tryz
open Go Go.Abs
variable {O:Type}
structure Hd where
 p:Nat
 r:Nat
 s:Nat
 g:Nat
 l:Bool
structure Hd.ok (h:Hd):Prop where
 p:h.p<4096
 r:h.r<4096
 s:h.s<32
 g:h.g<8
def Hd.ln (h:Hd):Nat:=if h.l then 1 else 0
def Hd.ns (h:Hd):List Nat:=[h.p,h.r,h.s,h.g,h.ln,1]
def Hd.w (h:Hd):Nat->Nat
 |0=>0
 |1=>0+h.p*2 ^ 0
 |2=>0+h.p*2 ^ 0+h.r*2 ^ 12
 |3=>0+h.p*2 ^ 0+h.r*2 ^ 12+h.s*2 ^ 24
 |4=>0+h.p*2 ^ 0+h.r*2 ^ 12+h.s*2 ^ 24+h.g*2 ^ 29
 |5=>0+h.p*2 ^ 0+h.r*2 ^ 12+h.s*2 ^ 24+h.g*2 ^ 29+h.ln*2 ^ 32
 |_=>0+h.p*2 ^ 0+h.r*2 ^ 12+h.s*2 ^ 24+h.g*2 ^ 29+h.ln*2 ^ 32+1*2 ^ 62
def Hd.word (h:Hd):Nat:=h.w 6
theorem Hd.Su (h:Hd):h.ln<2:=by unfold Hd.ln;split<;>omega
theorem Hd.ok.w {h:Hd} (k:h.ok):h.word<2 ^ 63/\2 ^ 62<=h.word:=by
 have h1:=k.p;have h2:=k.r;have h3:=k.s;have h4:=k.g;have h5:=h.Su
 simp only [Hd.word,Hd.w]
 omega
theorem JU {J:AH O} {a:SA} {b el:Nat} {h:Hd} (hk:h.ok) (hf:xk J a) (hb:J.aa b=some (.cells true el (h.ns.map fun n:Nat=>AV.i .u64 (n:Int)))) (bp:b<J.next):
  Ok (qeg [.sl a 6,.sl (.loc (.n b) 0 1) 6] J) fun r=>r.1=.aB [.i .u64 (h.word:Int),.i .i64 0]/\Ext J r.2:=by
 have h1:=hk.p;have h2:=hk.r;have h3:=hk.s;have h4:=hk.g;have h5:=h.Su
 (unfold qeg qef;refine bZ ?_)
 refine Ok.step (JT hf) fun r ⟨g1,g2⟩=>?_
 obtain ⟨q,J1⟩:=r
 simp only at g1 g2
 subst g1
 have Sv:=hf.ext g2
 have cK:J1.aa b=_:=(g2.aa _ bp).trans hb
 have JC:=Nat.lt_of_lt_of_le bp g2.next
 have e6:(((6:Nat):Int) != ((6:Nat):Int))=false:=rfl
 refine cw e6 ?_
 refine Ok.cv (Q:=fun r=>∃ J2,r=.inl ([.i .u64 (h.word:Int)],J2)/\Ext J1 J2) (Ok.count 6 (fun k s=>s.1=[.i .u64 (h.w k:Int),.i .i64 (k:Int)]/\Ext J1 s.2) ?_ ?_ ⟨rfl,Ext.refl _⟩) ?_ ?_
 ·rintro k ⟨_,J2⟩ hk ⟨rfl,e⟩
  obtain ⟨c,DT,rfl,hc,sY⟩:=Sv.ext e
  have fv:=(e.aa _ JC).trans cK
  have Sf:=Nat.lt_of_lt_of_le JC e.next
  simp only at hc sY fv Sf
  have key:∀ (x:Nat × Nat) (n:Nat),FA[k]? = some x->h.ns[k]? = some n->1<=x.2->x.1+x.2<=64->x.2<=16->h.w k<2 ^ x.1->n<2 ^ x.2->h.w k+n*2 ^ x.1=h.w (k+1)->
    Ok (qee (.loc (.n c) 0 2,6) (.loc (.n b) 0 1,6) XP ([.i .u64 (h.w k:Int),.i .i64 (k:Int)],J2)) fun r=>match r with |.inl s'=>s'.1=[.i .u64 (h.w (k+1):Int),.i .i64 ((k+1:Nat):Int)]/\Ext J1 s'.2 |.inr t=>∃ J2,t=.inl ([.i .u64 (h.word:Int)],J2)/\Ext J1 J2:=by
   intro x n hx hn q1 q2 q3 q4 q5 q6
   obtain ⟨c1,c2⟩:=JS hx
   have t1:(k:Int).toNat*2=k*2:=by omega
   have t2:(k:Int).toNat*1=k:=by omega
   have c3:(h.ns.map fun n:Nat=>AV.i .u64 (n:Int))[k]? = some (.i .u64 (n:Int)):=by rw [List.getElem?_map,hn];rfl
   have e0:((0:Int) != 0)=false:=rfl
   (unfold qee SA.ref;refine rl hc t1 t2 c1 (cj c2 (cj fv c3)) ?_)
   refine Ok.step (NA _ q1 q2 q3 q4 q5) fun r ⟨k1,k2⟩=>?_
   obtain ⟨q,J3⟩:=r
   simp only at k1 k2
   subst k1
   refine cw e0 ?_
   exact U.2 ⟨by rw [q6];rfl,e.trans (cN (by (have x0:=(k2).next);(try simp only [aO] at *);omega) (fun b hb=>by (have x0:=(k2).next);(try simp only [aO] at *);simp -implicitDefEqProofs (disch:=(first |omega |rfl |assumption |(simp only [aO];first |omega |assumption))) only [aA,bA,au,cB (k2)]))⟩
  rcases (by omega:k=0 ∨ k=1 ∨ k=2 ∨ k=3 ∨ k=4 ∨ k=5) with rfl |rfl |rfl |rfl |rfl |rfl
  all_goals
   refine (key _ _ rfl rfl (by decide) (by decide) (by decide) ?_ ?_ rfl).mono fun r hr=>by cases r<;>exact hr
   all_goals
    simp only [Hd.w]
    omega
 ·rintro ⟨_,J2⟩ ⟨rfl,e⟩
  (unfold qee;refine bZ ?_)
  exact U.2 ⟨J2,rfl,e⟩
 ·rintro _ ⟨J2,hh,e⟩
  cases hh
  refine bZ ?_
  exact U.2 ⟨rfl,g2.trans e⟩
 ·rintro _ ⟨J2,hh,e⟩
  cases hh
theorem jj (J:AH O) (n m:Int):U2 [.i .i64 n,.i .i64 m] J=some (.b (decide (0<=n/\n<=m)),J):=by
 by_cases h:0<=n
 ·(unfold U2 qco;refine cw @ge_iff_le.{0} ?_)
  try simp [h]
 ·(unfold U2 qco;exact IU @ge_iff_le.{0})
  try simp [h]
def gk (p r s g:Int):Int:=if ¬(0<=p/\p<=4095) ∨ ¬(0<=r/\r<=4095) then 20 else if ¬(0<=s/\s<=31) then 21 else if ¬(0<=g/\g<=7) then 2 else 0
theorem uT (J:AH O) (p r s g:Int) (l:Bool):Ok (NB [.agg [.i .i64 p,.i .i64 r,.i .i64 s,.i .i64 g,.b l]] J) fun q=>q.1=.i .i64 (gk p r s g)/\Ext J q.2:=by
 by_cases h1:0<=p/\p<=4095
 ·by_cases h2:0<=r/\r<=4095
  ·by_cases h3:0<=s/\s<=31
   ·by_cases h4:0<=g/\g<=7
    ·(unfold NB Sw;refine rl @jj (decide_eq_true h1) (decide_eq_true h2) (decide_eq_true h3) (decide_eq_true h4) ?_)
     exact U.2 ⟨by simp [gk,h1,h2,h3,h4],rj⟩
    ·(unfold NB Sw;refine rl @jj (decide_eq_true h1) (decide_eq_true h2) (decide_eq_true h3) (decide_eq_false h4) ?_)
     exact U.2 ⟨by simp [gk,h1,h2,h3,h4],rj⟩
   ·(unfold NB Sw;refine BA @jj (decide_eq_true h1) (decide_eq_true h2) (decide_eq_false h3) ?_)
    exact U.2 ⟨by simp [gk,h1,h2,h3],rj⟩
  ·(unfold NB Sw;refine jE @jj (decide_eq_true h1) (decide_eq_false h2) ?_)
   exact U.2 ⟨by simp [gk,h1,h2],rj⟩
 ·(unfold NB Sw;refine gh @jj (decide_eq_false h1) ?_)
  exact U.2 ⟨by simp [gk,h1],rj⟩
def Hd.av (h:Hd):List AV:=[.i .i64 (h.p:Int),.i .i64 (h.r:Int),.i .i64 (h.s:Int),.i .i64 (h.g:Int),.b h.l]
theorem Hd.ok.PA {h:Hd} (k:h.ok):gk h.p h.r h.s h.g=0:=by
 have h1:=k.p;have h2:=k.r;have h3:=k.s;have h4:=k.g
 unfold gk
 rw [if_neg (by omega),if_neg (by omega),if_neg (by omega)]
theorem qa (J:AH O) {h:Hd} (k:h.ok):Ok (U3 [.agg h.av] J) fun q=>q.1=.aB [.i .u64 (h.word:Int),.i .i64 0]/\Ext J q.2:=by
 have h1:=k.p;have h2:=k.r;have h3:=k.s;have h4:=k.g
 unfold Hd.av
 (unfold U3 qek;refine bZ ?_)
 refine Ok.step (uT _ h.p h.r h.s h.g h.l) fun q ⟨g1,g2⟩=>?_
 obtain ⟨q,J1⟩:=q
 simp only at g1 g2
 rw [k.PA] at g1
 subst g1
 have e0:((0:Int) != 0)=false:=rfl
 have hb:J1.aa J.next=some (.cells true 39 [.i .i64 (h.p:Int),.i .i64 (h.r:Int),.i .i64 (h.s:Int),.i .i64 (h.g:Int),.b h.l]):=(g2.aa _ (by simp)).trans aH
 have Ma:=g2.next
 simp only [aO] at Ma
 have e1:(bif h.l then (1:Int) else 0)=(h.ln:Int):=by unfold Hd.ln;cases h.l<;>rfl
 refine jE e0 hb e1 ?_
 refine Ok.step (xm _) fun q ⟨a,k1,k2,k3,k4⟩=>?_
 obtain ⟨q,J2⟩:=q
 simp only at k1 k2 k3 k4
 subst k1
 have fv:J2.aa J.next=_:=(k3.aa _ (by simp;omega)).trans hb
 have k3n:=k3.next
 simp only [aO] at k3n k4
 refine cw fv ?_
 obtain ⟨c,el,rfl,hc,sY⟩:=k2
 have db:=k4 c (by simp [SA.bk])
 refine Ok.step (JU k (b:=J1.next) (el:=33) ⟨c,el,rfl,by refine UE ?_;exact hc,by simpa using sY⟩ (by refine UE ?_;rfl) (by simp;omega)) fun q ⟨j1,j2⟩=>?_
 obtain ⟨q,J3⟩:=q
 simp only at j1 j2
 subst j1
 refine bZ ?_
 exact U.2 ⟨rfl,(cN (by (have x0:=(g2).next);(have x1:=(k3).next);(have x2:=(j2).next);(try simp only [aO] at *);omega) (fun b hb=>by (have x0:=(g2).next);(have x1:=(k3).next);(have x2:=(j2).next);(try simp only [aO] at *);simp -implicitDefEqProofs (disch:=(first |omega |rfl |assumption |(simp only [aO];first |omega |assumption))) only [aA,bA,au,cB (g2),cB (k3),cB (j2)]))⟩
end Go.Abs.Tryz
set_option maxHeartbeats 2000000
namespace Go.Abs.Tryz
open Go Go.Abs
variable {O:Type}
def yM (w:Nat):Hd:=⟨w / 2 ^ 0 % 2 ^ 12,w / 2 ^ 12 % 2 ^ 12,w / 2 ^ 24 % 2 ^ 5,w / 2 ^ 29 % 2 ^ 3,w / 2 ^ 32 % 2 ^ 1 == 1⟩
theorem NC (w:Nat):(yM w).ok:=⟨Nat.mod_lt _ (by decide),Nat.mod_lt _ (by decide),Nat.mod_lt _ (by decide),Nat.mod_lt _ (by decide)⟩
def CX (w:Nat):List AV:=FA.map fun x=>.i .i64 ((w / 2 ^ x.1 % 2 ^ x.2:Nat):Int)
theorem Gh (J:AH O) {w:Nat} (hw:w<2 ^ 64):Ok (Mb [.i .u64 (w:Int)] J) fun r=>r.1=(if (yM w).word=w then .aB [.agg (yM w).av,.i .i64 0] else .aB [.agg [.i .i64 0,.i .i64 0,.i .i64 0,.i .i64 0,.b false],.i .i64 5])/\Ext J r.2:=by
 (unfold Mb qlt;refine bZ ?_)
 refine Ok.step (xm _) fun q ⟨a,k1,k2,k3,k4⟩=>?_
 obtain ⟨q,J1⟩:=q
 simp only at k1 k2 k3 k4
 subst k1
 have k3n:=k3.next
 simp only [aO] at k3n k4
 refine bZ ?_
 have step:Ok (bC (qls (a,6) U1 (w:Int)) ([.sl .nil 0,.i .i64 0],J1)) fun r=>∃ a',r.1=[.sl a' 6]/\aY r.2 3 1 a' 6 (CX w)/\Ext J1 r.2/\∀ b∈SA.bk a',J1.next<=b:=by
  refine Ok.count 6 (fun k s=>∃ a',s.1=[.sl a' k,.i .i64 (k:Int)]/\aY s.2 3 1 a' k ((CX w).take k)/\Ext J1 s.2/\∀ b∈SA.bk a',J1.next<=b) ?_ ?_ ?_
  ·rintro k ⟨_,J2⟩ hk ⟨a',rfl,o,e,hb⟩
   have bp:=o.lt
   obtain ⟨c,el,rfl,hc,sY⟩:=k2.ext e
   simp only at hc sY o bp
   obtain ⟨x,hx,hr,m1,m2⟩:=AM ⟨k,hk⟩
   simp only at hx m1 m2
   obtain ⟨c1,c2⟩:=JS hx
   have t1:(k:Int).toNat*2=k*2:=by omega
   (unfold qls SA.ref;refine BA hc t1 c1 c2 ?_)
   refine Ok.step (yL _ hr.1 hr.2 hw) fun q ⟨g1,g2⟩=>?_
   obtain ⟨q,J3⟩:=q
   simp only at g1 g2
   subst g1
   have Ma:=g2.next
   simp only [aO] at Ma
   have ahL:x.2<=12:=by
    rcases (by omega:k=0 ∨ k=1 ∨ k=2 ∨ k=3 ∨ k=4 ∨ k=5) with rfl |rfl |rfl |rfl |rfl |rfl<;>(cases hx;decide)
   have UJ:w / 2 ^ x.1 % 2 ^ x.2<4096:=Nat.lt_of_lt_of_le (Nat.mod_lt _ (Nat.pos_of_ne_zero (by simp))) (show 2 ^ x.2<=2 ^ 12 from Nat.pow_le_pow_right (by decide) ahL)
   have hz:=cd (n:=((w / 2 ^ x.1 % 2 ^ x.2:Nat):Int)) (by omega)
   have o3:aY J3 3 1 a' k ((CX w).take k):=o.of (by omega) fun b dI=>by have:=bp b dI;rw [g2.aa b (by simp;omega)];exact hU
   have ahM:Nat.ble ((k+1)*9) 35184372088832=true:=Nat.ble_eq_true_of_le (by omega)
   refine gh hz ahM ?_
   refine Ok.step (jf (nid:=J2.next+1+1) (aY.of o3 (by simp) (fun b dI=>by have:=bp b dI;exact hU)) (fun h=>by have:=bp _ h;omega) (by simp;omega) rfl) fun r ⟨a2,g1,g2',g3,g4,g5⟩=>?_
   obtain ⟨q,J4⟩:=r
   simp only at g1 g2' g3 g4
   subst g1
   simp only [aO] at g3
   have en:=e.next
   simp only at en
   refine bZ ?_
   refine U.2 ⟨a2,by rw [Int.natCast_add];rfl,?_,⟨by simp only;omega,fun b dI=>?_⟩,fun b dI=>by have:=g5 b dI;omega⟩
   ·have:(CX w).take (k+1)=(CX w).take k++[.i .i64 ((w / 2 ^ x.1 % 2 ^ x.2:Nat):Int)]:=by
     rw [List.take_add_one]
     congr 1
     unfold CX
     rw [List.getElem?_map,hx];rfl
    rw [this];exact g2'
   ·have e2:=e.aa b dI
    simp only at e2 ⊢
    rw [g4 b (by omega) (fun h=>by have:=hb b h;omega),<-e2]
    refine UE ?_
    rw [g2.aa b (by simp;omega)]
    exact hU
  ·rintro ⟨_,J2⟩ ⟨a',rfl,o,e,hb⟩
   (unfold qls;refine bZ ?_)
   exact U.2 ⟨a',rfl,o,e,hb⟩
  ·exact ⟨.nil,rfl,aY.nil _ _ _,Ext.refl _,by simp [SA.bk]⟩
 refine Ok.step step fun q ⟨a',j1,o,e,hb⟩=>?_
 obtain ⟨q,J2⟩:=q
 simp only at j1 o e
 subst j1
 obtain ⟨c,rfl,hc,sY⟩:=o.loc (by decide)
 have en:=e.next
 simp only [CX,FA,List.map_cons,List.map_nil] at hc
 have hbs:J2.aa J.next=some (.cells true 39 [.i .i64 0,.i .i64 0,.i .i64 0,.i .i64 0,.b false]):=(e.aa _ (by omega)).trans ((k3.aa _ (by simp)).trans aH)
 have db:=hb c (by simp [SA.bk])
 have hl:(((w / 2 ^ 32 % 2 ^ 1:Nat):Int) == 1)=(w / 2 ^ 32 % 2 ^ 1 == 1):=by
  by_cases h:w / 2 ^ 32 % 2 ^ 1=1
  ·rw [h];rfl
  ·rw [beq_eq_false_iff_ne.2 h,beq_eq_false_iff_ne.2 (by omega)]
 (unfold SA.ref;refine gh hc hl ?_)
 refine Ok.step (qa _ (NC w)) fun q ⟨g1,g2⟩=>?_
 obtain ⟨q,J3⟩:=q
 simp only at g1 g2
 subst g1
 have e0:((0:Int) != 0)=false:=rfl
 have Ma:=g2.next
 simp only [aO] at Ma
 have XR:J3.aa J.next=some (.cells true 39 [.i .i64 0,.i .i64 0,.i .i64 0,.i .i64 0,.b false]):=by
  rw [g2.aa _ (by simp;omega)]
  refine UE ?_
  exact hbs
 have mz:J3.aa J2.next=some (.cells true 39 (yM w).av):=by
  rw [g2.aa _ (by simp)]
  refine UE ?_
  rfl
 simp only [Hd.av] at mz
 by_cases hwd:(yM w).word=w
 ·rw [if_pos hwd]
  have ew:((((yM w).word:Nat):Int) != (w:Int))=false:=by rw [hwd];simp
  refine BA e0 ew XR mz ?_
  exact U.2 ⟨rfl,(cN (by (have x0:=(k3).next);(have x1:=(e).next);(have x2:=(g2).next);(try simp only [aO] at *);omega) (fun b hb=>by (have x0:=(k3).next);(have x1:=(e).next);(have x2:=(g2).next);(try simp only [aO] at *);simp -implicitDefEqProofs (disch:=(first |omega |rfl |assumption |(simp only [aO];first |omega |assumption))) only [aA,bA,au,cB (k3),cB (e),cB (g2)]))⟩
 ·rw [if_neg hwd]
  have ew:((((yM w).word:Nat):Int) != (w:Int))=true:=by simp;omega
  refine BA e0 ew XR mz ?_
  exact U.2 ⟨rfl,(cN (by (have x0:=(k3).next);(have x1:=(e).next);(have x2:=(g2).next);(try simp only [aO] at *);omega) (fun b hb=>by (have x0:=(k3).next);(have x1:=(e).next);(have x2:=(g2).next);(try simp only [aO] at *);simp -implicitDefEqProofs (disch:=(first |omega |rfl |assumption |(simp only [aO];first |omega |assumption))) only [aA,bA,au,cB (k3),cB (e),cB (g2)]))⟩
end Go.Abs.Tryz
