/-
  Layers 11 and 12: fields of words, headers. No conditions.
-/
import Derived.Test.YtncohicmiihjiaaGreatS9s
import Derived.Test.YtncohicmiihjiaaGreatAbsSim
import Derived.Test.YtncohicmiihjiaaGreatAbsArgs
import Derived.Test.YtncohicmiihjiaaGreatAbsSl
import Derived.Test.YtncohicmiihjiaaGreatAbsNat
import Derived.Test.YtncohicmiihjiaaGreatAbsBits
set_option linter.unusedVariables false
set_option linter.unusedSimpArgs false
set_option linter.constructorNameAsVariable false
set_option linter.unusedSimpArgs false
set_option linter.unusedVariables false
set_option linter.unusedSectionVars false
set_option maxHeartbeats 1000000
namespace Go.Abs.Tryz
open Go Go.Abs
variable {O:Type}
def B1 (a s:Nat):Int:=(((2 ^ s - 1)*2 ^ a:Nat):Int)
theorem Kl:∀ s:Fin 65,∀ a:Fin 65,1<=s.val->a.val+s.val<=64->IntKind.u64.wrap (Int.fdiv 18446744073709551615 (2 ^ min ((64:Int) - (s.val:Int)).toNat 64)*2 ^ min (a.val:Int).toNat 64)=B1 a.val s.val:=by decide +kernel
theorem Oj {a s:Nat} (hs:1<=s):B1 a s≠0:=by
 unfold B1
 have h1:2<=2 ^ s:=by
  calc 2=2 ^ 1:=rfl
   _<=2 ^ s:=Nat.pow_le_pow_right (by decide) hs
 have h2:1<=2 ^ a:=Nat.one_le_two_pow
 have:1*1<=(2 ^ s - 1)*2 ^ a:=Nat.mul_le_mul (by omega) h2
 omega
theorem rn {a s:Nat} (J:AH O) (h1:1<=s) (h2:a+s<=64):Ok (VR [.agg [.i .i64 (a:Int),.i .i64 (s:Int)]] J) fun r=>r.1=.b true/\Ext J r.2:=by
 (unfold VR qdn;refine cO @ge_iff_le.{0} ?_)
 exact U.2 ⟨by simp,ku⟩
theorem uZ {a s:Nat} (J:AH O) (h1:1<=s) (h2:a+s<=64):Ok (VS [.agg [.i .i64 (a:Int),.i .i64 (s:Int)]] J) fun r=>r.1=.i .u64 (B1 a s)/\Ext J r.2:=by
 (unfold VS qds;refine cd ?_)
 refine Ok.step (rn _ h1 h2) fun r ⟨g1,g2⟩=>?_
 obtain ⟨q,J1⟩:=r
 simp only at g1 g2
 subst g1
 have hb:J1.aa J.next=some (.cells true 195 [.i .i64 (a:Int),.i .i64 (s:Int)]):=(g2.aa _ (by simp)).trans aE
 refine cO hb ?_
 have hv:=Kl ⟨s,by omega⟩ ⟨a,by omega⟩ h1 h2
 simp only at hv
 exact U.2 ⟨by rw [<-hv];simp,(cF (by (have x0:=(g2).next);(try simp only [aN] at *);omega) (fun b hb=>by (have x0:=(g2).next);(try simp only [aN] at *);simp -implicitDefEqProofs (disch:=(first |omega |rfl |assumption |(simp only [aN];first |omega |assumption))) only [aq,bd,ak,cu (g2)]))⟩
def bl (n:Nat):Nat:=if n=0 then 0 else Nat.log2 n+1
theorem Q9 {n k:Nat} (h:n<2 ^ k):bl n<=k:=by
 unfold bl
 split
 ·omega
 ·rename_i h0
  exact (Nat.log2_lt h0).2 h
theorem Km:∀ i:Fin 256,(([0,1,2,2,3,3,3,3,4,4,4,4,4,4,4,4,5,5,5,5,5,5,5,5,5,5,5,5,5,5,5,5,6,6,6,6,6,6,6,6,6,6,6,6,6,6,6,6,6,6,6,6,6,6,6,6,6,6,6,6,6,6,6,6,7,7,7,7,7,7,7,7,7,7,7,7,7,7,7,7,7,7,7,7,7,7,7,7,7,7,7,7,7,7,7,7,7,7,7,7,7,7,7,7,7,7,7,7,7,7,7,7,7,7,7,7,7,7,7,7,7,7,7,7,7,7,7,7,8,8,8,8,8,8,8,8,8,8,8,8,8,8,8,8,8,8,8,8,8,8,8,8,8,8,8,8,8,8,8,8,8,8,8,8,8,8,8,8,8,8,8,8,8,8,8,8,8,8,8,8,8,8,8,8,8,8,8,8,8,8,8,8,8,8,8,8,8,8,8,8,8,8,8,8,8,8,8,8,8,8,8,8,8,8,8,8,8,8,8,8,8,8,8,8,8,8,8,8,8,8,8,8,8,8,8,8,8,8,8,8,8,8,8,8,8,8,8,8,8,8,8,8,8,8,8,8]:List UInt8)[i.val]?)=some (UInt8.ofNat (bl i.val)):=by decide +kernel
theorem Ra {n:Nat} (h:n<256):bl n<=8:=Q9 (k:=8) h
theorem TC {n:Nat} (h:256<=n) (h':n<65536):bl (n / 256)+8=bl n:=by
 unfold bl
 rw [if_neg (by omega),if_neg (by omega)]
 have e:n / 256=n >>> 8:=by rw [Nat.shiftRight_eq_div_pow]
 have h1:Nat.log2 n=Nat.log2 (n / 256)+8:=by
  have l0:n / 256≠0:=by omega
  have l1:=(Nat.log2_lt (k:=Nat.log2 (n / 256)+1) l0).1 (by omega)
  have l2:2 ^ Nat.log2 (n / 256)<=n / 256:=Nat.log2_self_le l0
  have l3:n<2 ^ (Nat.log2 (n / 256)+8+1):=by
   have:2 ^ (Nat.log2 (n / 256)+8+1)=2 ^ (Nat.log2 (n / 256)+1)*256:=by rw [show Nat.log2 (n / 256)+8+1=Nat.log2 (n / 256)+1+8 by omega,Nat.pow_add]
   rw [this]
   omega
  have l4:2 ^ (Nat.log2 (n / 256)+8)<=n:=by
   rw [Nat.pow_add]
   have:2 ^ Nat.log2 (n / 256)*2 ^ 8<=n / 256*256:=Nat.mul_le_mul l2 (Nat.le_refl _)
   omega
  have l5:=(Nat.log2_lt (n:=n) (by omega)).2 l3
  have l6:=(Nat.le_log2 (n:=n) (by omega)).2 l4
  omega
 omega
set_option maxRecDepth 100000 in
theorem TD {n:Nat} (J:AH O) (h:n<65536):YS [.i .u64 (n:Int)] J=some (.i .i64 (bl n:Int),J):=by
 by_cases hn:n<256
 ·have ht:=Km ⟨n,hn⟩
  simp only at ht
  have hb:=Ra hn
  have e1:(IntKind.u8.wrap (n:Int)).toNat=n:=by rw [NK (by omega)];simp
  have e2:((UInt8.ofNat (bl n)).toNat:Int)=bl n:=by simp;omega
  (unfold YS qd3;refine jN e1 ht e2 ?_)
  simp
 ·have aY:n / 256<256:=by omega
  have ht:=Km ⟨n / 256,aY⟩
  simp only at ht
  have hb:=Ra aY
  have e0:Int.fdiv (n:Int) (2 ^ 8)=((n / 256:Nat):Int):=by rw [Int.fdiv_eq_ediv_of_nonneg _ (by decide)];rfl
  have e1:(IntKind.u8.wrap ((n / 256:Nat):Int)).toNat=n / 256:=by rw [NK (by omega),Int.toNat_natCast]
  have e2:((UInt8.ofNat (bl (n / 256))).toNat:Int)=bl (n / 256):=by simp;omega
  have e3:=TC (by omega) h
  (unfold YS qd3;refine AR e0 e1 ht e2 ?_)
  simp;omega
theorem Kn {w n a s:Nat} (h1:1<=s) (h2:a+s<=64) (hw:w<2 ^ a) (hn:n<2 ^ s):bK .or .u64 (bK .andNot .u64 (w:Int) (B1 a s)) (IntKind.u64.wrap ((n:Int)*2 ^ min (a:Int).toNat 64))=((w+n*2 ^ a:Nat):Int):=by
 have pa:2 ^ a*2 ^ s<=2 ^ 64:=by rw [<-Nat.pow_add];exact Nat.pow_le_pow_right (by decide) h2
 have ps:1<=2 ^ s:=Nat.one_le_two_pow
 have p0:1<=2 ^ a:=Nat.one_le_two_pow
 have w64:w<2 ^ 64:=Nat.lt_of_lt_of_le hw (Nat.pow_le_pow_right (by decide) (by omega))
 have Ba:n*2 ^ a<2 ^ 64:=by
  have:n*2 ^ a<2 ^ s*2 ^ a:=Nat.mul_lt_mul_of_pos_right hn (by omega)
  rw [Nat.mul_comm (2 ^ s)] at this
  omega
 have m64:(2 ^ s - 1)*2 ^ a<2 ^ 64:=by
  have:(2 ^ s - 1)*2 ^ a<2 ^ s*2 ^ a:=Nat.mul_lt_mul_of_pos_right (by omega) (by omega)
  rw [Nat.mul_comm (2 ^ s)] at this
  omega
 have s64:w+n*2 ^ a<2 ^ 64:=by
  have h3:(n+1)*2 ^ a<=2 ^ s*2 ^ a:=Nat.mul_le_mul (by omega) (Nat.le_refl _)
  rw [Nat.mul_comm (2 ^ s),Nat.add_mul] at h3
  omega
 have e1:bK .andNot .u64 (w:Int) (B1 a s)=(w:Int):=by
  show IntKind.u64.wrap (((BitVec.ofInt 64 (w:Int) &&& ~~~BitVec.ofInt 64 (B1 a s)).toNat:Nat):Int)=_
  have:(BitVec.ofInt 64 (w:Int) &&& ~~~BitVec.ofInt 64 (B1 a s))=BitVec.ofNat 64 w:=by
   unfold B1
   rw [BitVec.ofInt_natCast,BitVec.ofInt_natCast]
   apply BitVec.eq_of_getLsbD_eq
   intro i hi
   simp only [BitVec.getLsbD_and,BitVec.getLsbD_not,BitVec.getLsbD_ofNat,hi,decide_true,Bool.true_and]
   by_cases hia:i<a
   ·have:((2 ^ s - 1)*2 ^ a).testBit i=false:=by
     rw [Nat.testBit_mul_two_pow];simp;omega
    rw [this];simp
   ·have:w.testBit i=false:=Nat.testBit_lt_two_pow (Nat.lt_of_lt_of_le hw (Nat.pow_le_pow_right (by decide) (by omega)))
    rw [this];simp
  rw [this,BitVec.toNat_ofNat,Nat.mod_eq_of_lt w64]
  exact j8 (by omega)
 have e2:IntKind.u64.wrap ((n:Int)*2 ^ min (a:Int).toNat 64)=((n*2 ^ a:Nat):Int):=by
  rw [Int.toNat_natCast,Nat.min_eq_left (by omega)]
  have:((n:Int)*2 ^ a)=((n*2 ^ a:Nat):Int):=by simp
  rw [this]
  exact j8 (by omega)
 rw [e1,e2]
 show IntKind.u64.wrap (((BitVec.ofInt 64 (w:Int) ||| BitVec.ofInt 64 ((n*2 ^ a:Nat):Int)).toNat:Nat):Int)=_
 rw [BitVec.toNat_or,fF (by omega) (by omega),fF (by omega) (by omega),Int.toNat_natCast,Int.toNat_natCast]
 have e3:=Nat.two_pow_add_eq_or_of_lt (i:=a) (b:=w) hw n
 have e4:w ||| n*2 ^ a=w+n*2 ^ a:=by rw [Nat.or_comm,Nat.mul_comm n,<-e3,Nat.add_comm]
 rw [e4]
 exact j8 ⟨Int.natCast_nonneg _,by omega⟩
theorem Ol {w n a s:Nat} (J:AH O) (h1:1<=s) (h2:a+s<=64) (h3:s<=16) (hw:w<2 ^ a) (hn:n<2 ^ s):Ok (YT [.i .u64 (w:Int),.agg [.i .i64 (a:Int),.i .i64 (s:Int)],.i .u64 (n:Int)] J) fun r=>r.1=.aG [.i .u64 ((w+n*2 ^ a:Nat):Int),.i .i64 0]/\Ext J r.2:=by
 have hl:n<65536:=Nat.lt_of_lt_of_le hn (Nat.pow_le_pow_right (n:=2) (by decide) h3)
 have bY:=Q9 hn
 (unfold YT qd8;refine cd ?_)
 refine Ok.step (rn _ h1 h2) fun r ⟨g1,g2⟩=>?_
 obtain ⟨q,J1⟩:=r
 simp only at g1 g2
 subst g1
 have hb:J1.aa J.next=some (.cells true 195 [.i .i64 (a:Int),.i .i64 (s:Int)]):=(g2.aa _ (by simp)).trans aE
 refine gg hb (TD J1 hl) ?_
 refine Ok.step (uZ _ h1 h2) fun r ⟨k1,k2⟩=>?_
 obtain ⟨q,J2⟩:=r
 simp only at k1 k2
 subst k1
 have eO:J2.aa J.next=some (.cells true 195 [.i .i64 (a:Int),.i .i64 (s:Int)]):=(k2.aa _ (by have:=g2.next;simp only [aN] at this;omega)).trans hb
 refine cO eO ?_
 exact U.2 ⟨by have hp:=Kn h1 h2 hw hn;rw [Int.toNat_natCast] at hp;rw [hp],(cF (by (have x0:=(g2).next);(have x1:=(k2).next);(try simp only [aN] at *);omega) (fun b hb=>by (have x0:=(g2).next);(have x1:=(k2).next);(try simp only [aN] at *);simp -implicitDefEqProofs (disch:=(first |omega |rfl |assumption |(simp only [aN];first |omega |assumption))) only [aq,bd,ak,cu (g2),cu (k2)]))⟩
theorem Ko {w a s:Nat} (h2:a+s<=64) (hw:w<2 ^ 64):Int.fdiv (bK .and .u64 (w:Int) (B1 a s)) (2 ^ min (a:Int).toNat 64)=((w / 2 ^ a % 2 ^ s:Nat):Int):=by
 have pa:2 ^ a*2 ^ s<=2 ^ 64:=by rw [<-Nat.pow_add];exact Nat.pow_le_pow_right (by decide) h2
 have ps:1<=2 ^ s:=Nat.one_le_two_pow
 have p0:1<=2 ^ a:=Nat.one_le_two_pow
 have m64:(2 ^ s - 1)*2 ^ a<2 ^ 64:=by
  have:(2 ^ s - 1)*2 ^ a<2 ^ s*2 ^ a:=Nat.mul_lt_mul_of_pos_right (by omega) (by omega)
  rw [Nat.mul_comm (2 ^ s)] at this
  omega
 have e1:bK .and .u64 (w:Int) (B1 a s)=((w / 2 ^ a % 2 ^ s*2 ^ a:Nat):Int):=by
  show IntKind.u64.wrap (((BitVec.ofInt 64 (w:Int) &&& BitVec.ofInt 64 (B1 a s)).toNat:Nat):Int)=_
  unfold B1
  rw [BitVec.toNat_and,fF (by omega) (by omega),fF (by omega) (by omega),Int.toNat_natCast,Int.toNat_natCast]
  have e2:w &&& (2 ^ s - 1)*2 ^ a=w / 2 ^ a % 2 ^ s*2 ^ a:=by
   apply Nat.eq_of_testBit_eq
   intro i
   rw [Nat.testBit_and,Nat.testBit_mul_two_pow,Nat.testBit_mul_two_pow,Nat.testBit_mod_two_pow,Nat.testBit_div_two_pow,Nat.testBit_two_pow_sub_one]
   by_cases hi:a<=i
   ·simp only [hi,decide_true,Bool.true_and]
    rw [show i - a+a=i by omega,Bool.and_comm]
   ·simp [hi]
  rw [e2]
  have h4:w / 2 ^ a % 2 ^ s*2 ^ a<=w:=by
   have h5:w / 2 ^ a % 2 ^ s*2 ^ a<=w / 2 ^ a*2 ^ a:=Nat.mul_le_mul (Nat.mod_le _ _) (Nat.le_refl _)
   have h6:=Nat.div_mul_le_self w (2 ^ a)
   omega
  exact j8 ⟨Int.natCast_nonneg _,by omega⟩
 rw [e1,Int.toNat_natCast,Nat.min_eq_left (by omega)]
 have e3:((2:Int) ^ a)=((2 ^ a:Nat):Int):=by simp
 rw [e3,Int.fdiv_eq_ediv_of_nonneg _ (Int.natCast_nonneg _),<-Int.natCast_ediv,Nat.mul_div_cancel _ (by omega)]
theorem yL {w a s:Nat} (J:AH O) (h1:1<=s) (h2:a+s<=64) (hw:w<2 ^ 64):Ok (VT [.i .u64 (w:Int),.agg [.i .i64 (a:Int),.i .i64 (s:Int)]] J) fun r=>r.1=.i .u64 ((w / 2 ^ a % 2 ^ s:Nat):Int)/\Ext J r.2:=by
 (unfold VT qlm;refine cd ?_)
 refine Ok.step (rn _ h1 h2) fun r ⟨g1,g2⟩=>?_
 obtain ⟨q,J1⟩:=r
 simp only at g1 g2
 subst g1
 have hb:J1.aa J.next=some (.cells true 195 [.i .i64 (a:Int),.i .i64 (s:Int)]):=(g2.aa _ (by simp)).trans aE
 refine cO hb ?_
 refine Ok.step (uZ _ h1 h2) fun r ⟨k1,k2⟩=>?_
 obtain ⟨q,J2⟩:=r
 simp only at k1 k2
 subst k1
 have eO:J2.aa J.next=some (.cells true 195 [.i .i64 (a:Int),.i .i64 (s:Int)]):=(k2.aa _ (by have:=g2.next;simp only [aN] at this;omega)).trans hb
 refine cO eO ?_
 exact U.2 ⟨by have hp:=Ko (s:=s) h2 hw;rw [Int.toNat_natCast] at hp;rw [hp],(cF (by (have x0:=(g2).next);(have x1:=(k2).next);(try simp only [aN] at *);omega) (fun b hb=>by (have x0:=(g2).next);(have x1:=(k2).next);(try simp only [aN] at *);simp -implicitDefEqProofs (disch:=(first |omega |rfl |assumption |(simp only [aN];first |omega |assumption))) only [aq,bd,ak,cu (g2),cu (k2)]))⟩
def FA:List (Nat × Nat):=[(0,12),(12,12),(24,5),(29,3),(32,1),(62,1)]
def FC (l:List (Nat × Nat)):List AV:=l.flatMap fun x=>[.i .i64 (x.1:Int),.i .i64 (x.2:Int)]
def xr (J:AH O) (a:SA):Prop:=∃ b el,a=.loc (.n b) 0 2/\J.aa b=some (.cells true el (FC FA))/\b<J.next
theorem xr.ext {J J':AH O} {a:SA} (h:xr J a) (e:Ext J J'):xr J' a:=by
 obtain ⟨b,el,h1,h2,h3⟩:=h
 exact ⟨b,el,h1,(e.aa _ h3).trans h2,Nat.lt_of_lt_of_le h3 e.next⟩
theorem xt (J:AH O):Ok (YU [] J) fun r=>∃ a,r.1=.sl a 6/\xr r.2 a/\Ext J r.2/\∀ b∈SA.bk a,J.next<=b:=by
 (unfold YU qdi;refine cd ?_)
 have step:Ok (bu (qdh 12 12 5 3 1) ([.sl .nil 0,.i .i64 0,.i .i64 0],(J.ax 1).put J.next (.cells true 232 [.i .i64 12,.i .i64 12,.i .i64 5,.i .i64 3,.i .i64 1]))) fun r=>∃ a,r.1=[.sl a 5]/\ba r.2 195 2 a 5 (FC (FA.take 5))/\Ext J r.2/\∀ b∈SA.bk a,J.next<=b:=by
  refine Ok.count 5 (fun k s=>∃ a,s.1=[.sl a k,.i .i64 ((((FA.take 5)[k]?).getD (33,0)).1:Int),.i .i64 (k:Int)]/\ba s.2 195 2 a k (FC (FA.take k))/\Ext J s.2/\∀ b∈SA.bk a,J.next<=b) ?_ ?_ ?_
  ·rintro k ⟨_,J1⟩ hk ⟨a,rfl,o,e,hb⟩
   have aY:=o.lt
   rcases (by omega:k=0 ∨ k=1 ∨ k=2 ∨ k=3 ∨ k=4) with rfl |rfl |rfl |rfl |rfl
   all_goals
    simp only [FA,FC,List.take_succ_cons,List.take_zero,List.flatMap_cons,List.flatMap_nil,List.append_nil,List.cons_append,List.nil_append,List.getElem?_cons_zero,List.getElem?_cons_succ,List.getElem?_nil,Option.getD_none,Option.getD_some] at o ⊢
    simp (maxSteps:=2000000) -implicitDefEqProofs (disch:=(first |omega |rfl |assumption |(simp only [aN];first |omega |assumption))) only [qdh,Nat.reduceLeDiff,Nat.reduceAdd,Nat.reduceMul,Nat.reduceLT,Int.reduceToNat,Int.reduceAdd,Int.reduceSub,Int.reduceMul,dH,fU]
    refine Ok.step (ja (nid:=J1.next+1) (ba.of o (by simp) (fun b dJ=>by have:=aY b dJ;simp only at this;exact iZ)) (fun h=>by have:=aY _ h;simp only at this;omega) (by simp) rfl) fun r ⟨a',g1,g2,g3,g4,g5⟩=>?_
    obtain ⟨q,J2⟩:=r
    simp only at g1 g2 g3 g4
    subst g1
    have e1:=e.next
    simp only [aN] at g3 e1
    refine cd ?_
    refine U.2 ⟨a',rfl,g2,⟨by simp only;omega,fun b dJ=>?_⟩,fun b dJ=>by have:=g5 b dJ;omega⟩
    have e2:=e.aa b dJ
    simp only at e2 ⊢
    rw [g4 b (by omega) (fun h=>by have:=hb b h;omega),<-e2]
    exact iZ
  ·rintro ⟨_,J1⟩ ⟨a,rfl,o,e,hb⟩
   (unfold qdh;refine cd ?_)
   exact U.2 ⟨a,rfl,o,e,hb⟩
  ·exact ⟨.nil,rfl,ba.nil _ _ _,ku,by simp [SA.bk]⟩
 refine Ok.step step fun r ⟨a,g1,o,e,hb⟩=>?_
 obtain ⟨q,J1⟩:=r
 simp only at g1 o e
 subst g1
 have Ed:=e.next
 refine cd ?_
 have aY:=o.lt
 refine Ok.step (ja (nid:=J1.next+1) (ba.of o (by simp) (fun b dJ=>by have:=aY b dJ;exact iZ)) (fun h=>by have:=aY _ h;omega) (by simp) rfl) fun r ⟨a',g1,g2,g3,g4,g5⟩=>?_
 obtain ⟨q,J2⟩:=r
 simp only at g1 g2 g3 g4
 subst g1
 simp only [aN] at g3
 refine cd ?_
 obtain ⟨b,ha,vN,bY⟩:=g2.loc (by decide)
 refine U.2 ⟨a',rfl,⟨b,_,ha,vN,bY⟩,⟨by simp only;omega,fun c hc=>?_⟩,fun c hc=>by have:=g5 c hc;omega⟩
 have e2:=e.aa c hc
 simp only at e2 ⊢
 rw [g4 c (by omega) (fun h=>by have:=hb c h;omega),<-e2]
 exact iZ
def MA:List Int:=[0,4095,16777215,536870911,4294967295,8589934591,4611686027017322495]
theorem Bb:∀ k:Fin 6,∃ x,FA[k.val]? = some x/\(1<=x.2/\x.1+x.2<=64)/\bK .and .u64 (MA.getD k.val 0) (B1 x.1 x.2)=0/\bK .or .u64 (MA.getD k.val 0) (B1 x.1 x.2)=MA.getD (k.val+1) 0:=by
 intro k
 match k with
 |⟨0,_⟩=>exact ⟨_,rfl,by decide,by kernel_rfl,by kernel_rfl⟩
 |⟨1,_⟩=>exact ⟨_,rfl,by decide,by kernel_rfl,by kernel_rfl⟩
 |⟨2,_⟩=>exact ⟨_,rfl,by decide,by kernel_rfl,by kernel_rfl⟩
 |⟨3,_⟩=>exact ⟨_,rfl,by decide,by kernel_rfl,by kernel_rfl⟩
 |⟨4,_⟩=>exact ⟨_,rfl,by decide,by kernel_rfl,by kernel_rfl⟩
 |⟨5,_⟩=>exact ⟨_,rfl,by decide,by kernel_rfl,by kernel_rfl⟩
theorem Kp {k:Nat} {x:Nat × Nat} (h:FA[k]? = some x):(FC FA)[k*2]? = some (.i .i64 (x.1:Int))/\(FC FA)[k*2+1]? = some (.i .i64 (x.2:Int)):=by
 have hk:k<6:=(List.getElem?_eq_some_iff.1 h).1
 rcases (by omega:k=0 ∨ k=1 ∨ k=2 ∨ k=3 ∨ k=4 ∨ k=5) with rfl |rfl |rfl |rfl |rfl |rfl<;>(cases h;exact ⟨rfl,rfl⟩)
theorem Kq {J:AH O} {a:SA} (h:xr J a):Ok (qdz [.sl a 6] J) fun r=>r.1=.b true/\Ext J r.2:=by
 (unfold qdz qdy;refine cd ?_)
 refine Ok.cE (Q:=fun r=>∃ J1,r=.inl ([],J1)/\Ext J J1) (Ok.count 6 (fun k s=>s.1=[.i .u64 (MA.getD k 0),.i .i64 (k:Int)]/\Ext J s.2) ?_ ?_ ⟨rfl,Ext.refl _⟩) ?_ ?_
 ·rintro k ⟨_,J1⟩ hk ⟨rfl,e⟩
  obtain ⟨x,hx,hr,m1,m2⟩:=Bb ⟨k,hk⟩
  simp only at hx m1 m2
  obtain ⟨b,el,rfl,hb,aY⟩:=h.ext e
  obtain ⟨c1,c2⟩:=Kp hx
  have cJ:=Oj (a:=x.1) hr.1
  simp only at hb aY
  have t1:(k:Int).toNat*2=k*2:=by omega
  (unfold qdx SA.ref;refine AR hb t1 c1 c2 ?_)
  refine Ok.step (uZ _ hr.1 hr.2) fun r ⟨g1,g2⟩=>?_
  obtain ⟨q,J2⟩:=r
  simp only at g1 g2
  subst g1
  have n1:(B1 x.1 x.2 == 0)=false:=by simp [cJ]
  refine jN n1 m1 m2 ?_
  refine U.2 ⟨rfl,e.trans (cF (by (have x0:=(g2).next);(try simp only [aN] at *);omega) (fun b hb=>by (have x0:=(g2).next);(try simp only [aN] at *);simp -implicitDefEqProofs (disch:=(first |omega |rfl |assumption |(simp only [aN];first |omega |assumption))) only [aq,bd,ak,cu (g2)]))⟩
 ·rintro ⟨_,J1⟩ ⟨rfl,e⟩
  (unfold qdx;refine cd ?_)
  exact U.2 ⟨J1,rfl,e⟩
 ·rintro _ ⟨J1,hh,e⟩
  cases hh
  exact U.2 ⟨rfl,e⟩
 ·rintro _ ⟨J1,hh,e⟩
  cases hh
end Go.Abs.Tryz
namespace Go.Abs.Tryz
open Go Go.Abs
variable {O:Type}
structure Hd where
 p:Nat
 r:Nat
 s:Nat
 g:Nat
 l:Bool
structure Hd.ok (h:Hd):Prop where
 p:h.p<4096
 r:h.r<4096
 s:h.s<32
 g:h.g<8
def Hd.ln (h:Hd):Nat:=if h.l then 1 else 0
def Hd.ns (h:Hd):List Nat:=[h.p,h.r,h.s,h.g,h.ln,1]
def Hd.w (h:Hd):Nat->Nat
 |0=>0
 |1=>0+h.p*2 ^ 0
 |2=>0+h.p*2 ^ 0+h.r*2 ^ 12
 |3=>0+h.p*2 ^ 0+h.r*2 ^ 12+h.s*2 ^ 24
 |4=>0+h.p*2 ^ 0+h.r*2 ^ 12+h.s*2 ^ 24+h.g*2 ^ 29
 |5=>0+h.p*2 ^ 0+h.r*2 ^ 12+h.s*2 ^ 24+h.g*2 ^ 29+h.ln*2 ^ 32
 |_=>0+h.p*2 ^ 0+h.r*2 ^ 12+h.s*2 ^ 24+h.g*2 ^ 29+h.ln*2 ^ 32+1*2 ^ 62
def Hd.word (h:Hd):Nat:=h.w 6
theorem Hd.TE (h:Hd):h.ln<2:=by unfold Hd.ln;split<;>omega
theorem Hd.ok.w {h:Hd} (k:h.ok):h.word<2 ^ 63/\2 ^ 62<=h.word:=by
 have h1:=k.p;have h2:=k.r;have h3:=k.s;have h4:=k.g;have h5:=h.TE
 simp only [Hd.word,Hd.w]
 omega
theorem Kr {J:AH O} {a:SA} {b el:Nat} {h:Hd} (hk:h.ok) (hf:xr J a) (hb:J.aa b=some (.cells true el (h.ns.map fun n:Nat=>AV.i .u64 (n:Int)))) (aY:b<J.next):
  Ok (qef [.sl a 6,.sl (.loc (.n b) 0 1) 6] J) fun r=>r.1=.aG [.i .u64 (h.word:Int),.i .i64 0]/\Ext J r.2:=by
 have h1:=hk.p;have h2:=hk.r;have h3:=hk.s;have h4:=hk.g;have h5:=h.TE
 (unfold qef qee;refine cd ?_)
 refine Ok.step (Kq hf) fun r ⟨g1,g2⟩=>?_
 obtain ⟨q,J1⟩:=r
 simp only at g1 g2
 subst g1
 have TF:=hf.ext g2
 have cy:J1.aa b=_:=(g2.aa _ aY).trans hb
 have Kc:=Nat.lt_of_lt_of_le aY g2.next
 have e6:(((6:Nat):Int) != ((6:Nat):Int))=false:=rfl
 refine cO e6 ?_
 refine Ok.cE (Q:=fun r=>∃ J2,r=.inl ([.i .u64 (h.word:Int)],J2)/\Ext J1 J2) (Ok.count 6 (fun k s=>s.1=[.i .u64 (h.w k:Int),.i .i64 (k:Int)]/\Ext J1 s.2) ?_ ?_ ⟨rfl,Ext.refl _⟩) ?_ ?_
 ·rintro k ⟨_,J2⟩ hk ⟨rfl,e⟩
  obtain ⟨c,BN,rfl,hc,vw⟩:=TF.ext e
  have eO:=(e.aa _ Kc).trans cy
  have AB:=Nat.lt_of_lt_of_le Kc e.next
  simp only at hc vw eO AB
  have key:∀ (x:Nat × Nat) (n:Nat),FA[k]? = some x->h.ns[k]? = some n->1<=x.2->x.1+x.2<=64->x.2<=16->h.w k<2 ^ x.1->n<2 ^ x.2->h.w k+n*2 ^ x.1=h.w (k+1)->
    Ok (qed (.loc (.n c) 0 2,6) (.loc (.n b) 0 1,6) YT ([.i .u64 (h.w k:Int),.i .i64 (k:Int)],J2)) fun r=>match r with |.inl s'=>s'.1=[.i .u64 (h.w (k+1):Int),.i .i64 ((k+1:Nat):Int)]/\Ext J1 s'.2 |.inr t=>∃ J2,t=.inl ([.i .u64 (h.word:Int)],J2)/\Ext J1 J2:=by
   intro x n hx hn q1 q2 q3 q4 q5 q6
   obtain ⟨c1,c2⟩:=Kp hx
   have t1:(k:Int).toNat*2=k*2:=by omega
   have t2:(k:Int).toNat*1=k:=by omega
   have c3:(h.ns.map fun n:Nat=>AV.i .u64 (n:Int))[k]? = some (.i .u64 (n:Int)):=by rw [List.getElem?_map,hn];rfl
   have e0:((0:Int) != 0)=false:=rfl
   (unfold qed SA.ref;refine oQ hc t1 t2 c1 (cj c2 (cj eO c3)) ?_)
   refine Ok.step (Ol _ q1 q2 q3 q4 q5) fun r ⟨k1,k2⟩=>?_
   obtain ⟨q,J3⟩:=r
   simp only at k1 k2
   subst k1
   refine cO e0 ?_
   exact U.2 ⟨by rw [q6];rfl,e.trans (cF (by (have x0:=(k2).next);(try simp only [aN] at *);omega) (fun b hb=>by (have x0:=(k2).next);(try simp only [aN] at *);simp -implicitDefEqProofs (disch:=(first |omega |rfl |assumption |(simp only [aN];first |omega |assumption))) only [aq,bd,ak,cu (k2)]))⟩
  rcases (by omega:k=0 ∨ k=1 ∨ k=2 ∨ k=3 ∨ k=4 ∨ k=5) with rfl |rfl |rfl |rfl |rfl |rfl
  all_goals
   refine (key _ _ rfl rfl (by decide) (by decide) (by decide) ?_ ?_ rfl).mono fun r hr=>by cases r<;>exact hr
   all_goals
    simp only [Hd.w]
    omega
 ·rintro ⟨_,J2⟩ ⟨rfl,e⟩
  (unfold qed;refine cd ?_)
  exact U.2 ⟨J2,rfl,e⟩
 ·rintro _ ⟨J2,hh,e⟩
  cases hh
  refine cd ?_
  exact U.2 ⟨rfl,g2.trans e⟩
 ·rintro _ ⟨J2,hh,e⟩
  cases hh
theorem jg (J:AH O) (n m:Int):VU [.i .i64 n,.i .i64 m] J=some (.b (decide (0<=n/\n<=m)),J):=by
 by_cases h:0<=n
 ·(unfold VU qcn;refine cO @ge_iff_le.{0} ?_)
  try simp [h]
 ·(unfold VU qcn;exact Gd @ge_iff_le.{0})
  try simp [h]
def gk (p r s g:Int):Int:=if ¬(0<=p/\p<=4095) ∨ ¬(0<=r/\r<=4095) then 20 else if ¬(0<=s/\s<=31) then 21 else if ¬(0<=g/\g<=7) then 2 else 0
theorem u0 (J:AH O) (p r s g:Int) (l:Bool):Ok (Om [.agg [.i .i64 p,.i .i64 r,.i .i64 s,.i .i64 g,.b l]] J) fun q=>q.1=.i .i64 (gk p r s g)/\Ext J q.2:=by
 by_cases h1:0<=p/\p<=4095
 ·by_cases h2:0<=r/\r<=4095
  ·by_cases h3:0<=s/\s<=31
   ·by_cases h4:0<=g/\g<=7
    ·(unfold Om TG;refine oQ @jg (decide_eq_true h1) (decide_eq_true h2) (decide_eq_true h3) (decide_eq_true h4) ?_)
     exact U.2 ⟨by simp [gk,h1,h2,h3,h4],ku⟩
    ·(unfold Om TG;refine oQ @jg (decide_eq_true h1) (decide_eq_true h2) (decide_eq_true h3) (decide_eq_false h4) ?_)
     exact U.2 ⟨by simp [gk,h1,h2,h3,h4],ku⟩
   ·(unfold Om TG;refine AR @jg (decide_eq_true h1) (decide_eq_true h2) (decide_eq_false h3) ?_)
    exact U.2 ⟨by simp [gk,h1,h2,h3],ku⟩
  ·(unfold Om TG;refine jN @jg (decide_eq_true h1) (decide_eq_false h2) ?_)
   exact U.2 ⟨by simp [gk,h1,h2],ku⟩
 ·(unfold Om TG;refine gg @jg (decide_eq_false h1) ?_)
  exact U.2 ⟨by simp [gk,h1],ku⟩
def Hd.av (h:Hd):List AV:=[.i .i64 (h.p:Int),.i .i64 (h.r:Int),.i .i64 (h.s:Int),.i .i64 (h.g:Int),.b h.l]
theorem Hd.ok.Qp {h:Hd} (k:h.ok):gk h.p h.r h.s h.g=0:=by
 have h1:=k.p;have h2:=k.r;have h3:=k.s;have h4:=k.g
 unfold gk
 rw [if_neg (by omega),if_neg (by omega),if_neg (by omega)]
theorem pP (J:AH O) {h:Hd} (k:h.ok):Ok (VV [.agg h.av] J) fun q=>q.1=.aG [.i .u64 (h.word:Int),.i .i64 0]/\Ext J q.2:=by
 have h1:=k.p;have h2:=k.r;have h3:=k.s;have h4:=k.g
 unfold Hd.av
 (unfold VV qej;refine cd ?_)
 refine Ok.step (u0 _ h.p h.r h.s h.g h.l) fun q ⟨g1,g2⟩=>?_
 obtain ⟨q,J1⟩:=q
 simp only at g1 g2
 rw [k.Qp] at g1
 subst g1
 have e0:((0:Int) != 0)=false:=rfl
 have hb:J1.aa J.next=some (.cells true 39 [.i .i64 (h.p:Int),.i .i64 (h.r:Int),.i .i64 (h.s:Int),.i .i64 (h.g:Int),.b h.l]):=(g2.aa _ (by simp)).trans aE
 have My:=g2.next
 simp only [aN] at My
 have e1:(bif h.l then (1:Int) else 0)=(h.ln:Int):=by unfold Hd.ln;cases h.l<;>rfl
 refine jN e0 hb e1 ?_
 refine Ok.step (xt _) fun q ⟨a,k1,k2,k3,k4⟩=>?_
 obtain ⟨q,J2⟩:=q
 simp only at k1 k2 k3 k4
 subst k1
 have eO:J2.aa J.next=_:=(k3.aa _ (by simp;omega)).trans hb
 have k3n:=k3.next
 simp only [aN] at k3n k4
 refine cO eO ?_
 obtain ⟨c,el,rfl,hc,vw⟩:=k2
 have cJ:=k4 c (by simp [SA.bk])
 refine Ok.step (Kr k (b:=J1.next) (el:=33) ⟨c,el,rfl,by refine Vv ?_;exact hc,by simpa using vw⟩ (by refine Vv ?_;rfl) (by simp;omega)) fun q ⟨j1,j2⟩=>?_
 obtain ⟨q,J3⟩:=q
 simp only at j1 j2
 subst j1
 refine cd ?_
 exact U.2 ⟨rfl,(cF (by (have x0:=(g2).next);(have x1:=(k3).next);(have x2:=(j2).next);(try simp only [aN] at *);omega) (fun b hb=>by (have x0:=(g2).next);(have x1:=(k3).next);(have x2:=(j2).next);(try simp only [aN] at *);simp -implicitDefEqProofs (disch:=(first |omega |rfl |assumption |(simp only [aN];first |omega |assumption))) only [aq,bd,ak,cu (g2),cu (k3),cu (j2)]))⟩
end Go.Abs.Tryz
set_option maxHeartbeats 2000000
namespace Go.Abs.Tryz
open Go Go.Abs
variable {O:Type}
def yM (w:Nat):Hd:=⟨w / 2 ^ 0 % 2 ^ 12,w / 2 ^ 12 % 2 ^ 12,w / 2 ^ 24 % 2 ^ 5,w / 2 ^ 29 % 2 ^ 3,w / 2 ^ 32 % 2 ^ 1 == 1⟩
theorem On (w:Nat):(yM w).ok:=⟨Nat.mod_lt _ (by decide),Nat.mod_lt _ (by decide),Nat.mod_lt _ (by decide),Nat.mod_lt _ (by decide)⟩
def Dm (w:Nat):List AV:=FA.map fun x=>.i .i64 ((w / 2 ^ x.1 % 2 ^ x.2:Nat):Int)
theorem GH (J:AH O) {w:Nat} (hw:w<2 ^ 64):Ok (MB [.i .u64 (w:Int)] J) fun r=>r.1=(if (yM w).word=w then .aG [.agg (yM w).av,.i .i64 0] else .aG [.agg [.i .i64 0,.i .i64 0,.i .i64 0,.i .i64 0,.b false],.i .i64 5])/\Ext J r.2:=by
 (unfold MB qls;refine cd ?_)
 refine Ok.step (xt _) fun q ⟨a,k1,k2,k3,k4⟩=>?_
 obtain ⟨q,J1⟩:=q
 simp only at k1 k2 k3 k4
 subst k1
 have k3n:=k3.next
 simp only [aN] at k3n k4
 refine cd ?_
 have step:Ok (bu (qlr (a,6) VT (w:Int)) ([.sl .nil 0,.i .i64 0],J1)) fun r=>∃ a',r.1=[.sl a' 6]/\ba r.2 3 1 a' 6 (Dm w)/\Ext J1 r.2/\∀ b∈SA.bk a',J1.next<=b:=by
  refine Ok.count 6 (fun k s=>∃ a',s.1=[.sl a' k,.i .i64 (k:Int)]/\ba s.2 3 1 a' k ((Dm w).take k)/\Ext J1 s.2/\∀ b∈SA.bk a',J1.next<=b) ?_ ?_ ?_
  ·rintro k ⟨_,J2⟩ hk ⟨a',rfl,o,e,hb⟩
   have aY:=o.lt
   obtain ⟨c,el,rfl,hc,vw⟩:=k2.ext e
   simp only at hc vw o aY
   obtain ⟨x,hx,hr,m1,m2⟩:=Bb ⟨k,hk⟩
   simp only at hx m1 m2
   obtain ⟨c1,c2⟩:=Kp hx
   have t1:(k:Int).toNat*2=k*2:=by omega
   (unfold qlr SA.ref;refine AR hc t1 c1 c2 ?_)
   refine Ok.step (yL _ hr.1 hr.2 hw) fun q ⟨g1,g2⟩=>?_
   obtain ⟨q,J3⟩:=q
   simp only at g1 g2
   subst g1
   have My:=g2.next
   simp only [aN] at My
   have aiy:x.2<=12:=by
    rcases (by omega:k=0 ∨ k=1 ∨ k=2 ∨ k=3 ∨ k=4 ∨ k=5) with rfl |rfl |rfl |rfl |rfl |rfl<;>(cases hx;decide)
   have XJ:w / 2 ^ x.1 % 2 ^ x.2<4096:=Nat.lt_of_lt_of_le (Nat.mod_lt _ (Nat.pos_of_ne_zero (by simp))) (show 2 ^ x.2<=2 ^ 12 from Nat.pow_le_pow_right (by decide) aiy)
   have hz:=bG (n:=((w / 2 ^ x.1 % 2 ^ x.2:Nat):Int)) (by omega)
   have o3:ba J3 3 1 a' k ((Dm w).take k):=o.of (by omega) fun b dJ=>by have:=aY b dJ;rw [g2.aa b (by simp;omega)];exact iZ
   have aiz:Nat.ble ((k+1)*9) 35184372088832=true:=Nat.ble_eq_true_of_le (by omega)
   refine gg hz aiz ?_
   refine Ok.step (ja (nid:=J2.next+1+1) (ba.of o3 (by simp) (fun b dJ=>by have:=aY b dJ;exact iZ)) (fun h=>by have:=aY _ h;omega) (by simp;omega) rfl) fun r ⟨a2,g1,VF,g3,g4,g5⟩=>?_
   obtain ⟨q,J4⟩:=r
   simp only at g1 VF g3 g4
   subst g1
   simp only [aN] at g3
   have en:=e.next
   simp only at en
   refine cd ?_
   refine U.2 ⟨a2,by rw [Int.natCast_add];rfl,?_,⟨by simp only;omega,fun b dJ=>?_⟩,fun b dJ=>by have:=g5 b dJ;omega⟩
   ·have:(Dm w).take (k+1)=(Dm w).take k++[.i .i64 ((w / 2 ^ x.1 % 2 ^ x.2:Nat):Int)]:=by
     rw [List.take_add_one]
     congr 1
     unfold Dm
     rw [List.getElem?_map,hx];rfl
    rw [this];exact VF
   ·have e2:=e.aa b dJ
    simp only at e2 ⊢
    rw [g4 b (by omega) (fun h=>by have:=hb b h;omega),<-e2]
    refine Vv ?_
    rw [g2.aa b (by simp;omega)]
    exact iZ
  ·rintro ⟨_,J2⟩ ⟨a',rfl,o,e,hb⟩
   (unfold qlr;refine cd ?_)
   exact U.2 ⟨a',rfl,o,e,hb⟩
  ·exact ⟨.nil,rfl,ba.nil _ _ _,Ext.refl _,by simp [SA.bk]⟩
 refine Ok.step step fun q ⟨a',j1,o,e,hb⟩=>?_
 obtain ⟨q,J2⟩:=q
 simp only at j1 o e
 subst j1
 obtain ⟨c,rfl,hc,vw⟩:=o.loc (by decide)
 have en:=e.next
 simp only [Dm,FA,List.map_cons,List.map_nil] at hc
 have hbs:J2.aa J.next=some (.cells true 39 [.i .i64 0,.i .i64 0,.i .i64 0,.i .i64 0,.b false]):=(e.aa _ (by omega)).trans ((k3.aa _ (by simp)).trans aE)
 have cJ:=hb c (by simp [SA.bk])
 have hl:(((w / 2 ^ 32 % 2 ^ 1:Nat):Int) == 1)=(w / 2 ^ 32 % 2 ^ 1 == 1):=by
  by_cases h:w / 2 ^ 32 % 2 ^ 1=1
  ·rw [h];rfl
  ·rw [beq_eq_false_iff_ne.2 h,beq_eq_false_iff_ne.2 (by omega)]
 (unfold SA.ref;refine gg hc hl ?_)
 refine Ok.step (pP _ (On w)) fun q ⟨g1,g2⟩=>?_
 obtain ⟨q,J3⟩:=q
 simp only at g1 g2
 subst g1
 have e0:((0:Int) != 0)=false:=rfl
 have My:=g2.next
 simp only [aN] at My
 have YV:J3.aa J.next=some (.cells true 39 [.i .i64 0,.i .i64 0,.i .i64 0,.i .i64 0,.b false]):=by
  rw [g2.aa _ (by simp;omega)]
  refine Vv ?_
  exact hbs
 have mC:J3.aa J2.next=some (.cells true 39 (yM w).av):=by
  rw [g2.aa _ (by simp)]
  refine Vv ?_
  rfl
 simp only [Hd.av] at mC
 by_cases hwd:(yM w).word=w
 ·rw [if_pos hwd]
  have ew:((((yM w).word:Nat):Int) != (w:Int))=false:=by rw [hwd];simp
  refine AR e0 ew YV mC ?_
  exact U.2 ⟨rfl,(cF (by (have x0:=(k3).next);(have x1:=(e).next);(have x2:=(g2).next);(try simp only [aN] at *);omega) (fun b hb=>by (have x0:=(k3).next);(have x1:=(e).next);(have x2:=(g2).next);(try simp only [aN] at *);simp -implicitDefEqProofs (disch:=(first |omega |rfl |assumption |(simp only [aN];first |omega |assumption))) only [aq,bd,ak,cu (k3),cu (e),cu (g2)]))⟩
 ·rw [if_neg hwd]
  have ew:((((yM w).word:Nat):Int) != (w:Int))=true:=by simp;omega
  refine AR e0 ew YV mC ?_
  exact U.2 ⟨rfl,(cF (by (have x0:=(k3).next);(have x1:=(e).next);(have x2:=(g2).next);(try simp only [aN] at *);omega) (fun b hb=>by (have x0:=(k3).next);(have x1:=(e).next);(have x2:=(g2).next);(try simp only [aN] at *);simp -implicitDefEqProofs (disch:=(first |omega |rfl |assumption |(simp only [aN];first |omega |assumption))) only [aq,bd,ak,cu (k3),cu (e),cu (g2)]))⟩
end Go.Abs.Tryz
