/-
  AbsSim: rules by which what is run is reckoned: the heap's reads and writes, words that fit, truths that are known.
-/
import Derived.Test.YtncohicmiihjiaaGreatAbsBits
import Derived.Test.YtncohicmiihjiaaGreatAbsWord
set_option linter.unusedVariables false
set_option linter.unusedSimpArgs false
set_option linter.constructorNameAsVariable false
namespace Go.Abs
open Go
variable {O:Type}
theorem xd {n:Nat}:Nat.beq n n=true:=Nat.beq_refl n
theorem QL {n:Nat} {cs:List AV}:AV.asAgg n (.agg cs)=bif Nat.beq cs.length n then some cs else none:=rfl
theorem QM {n:Nat} {cs:List AV}:AV.az n (.aG cs)=bif Nat.beq cs.length n then some cs else none:=rfl
theorem XA {f:Option (Fn × List AV × List AV)}:AV.Vb (.fn f)=some f:=rfl
theorem Ep {A B:Type} {f:A->Option B}:(none:Option A).bind f=none:=rfl
theorem xe {A:Type} {a:A}:(some a).isNone=false:=rfl
theorem xg {A:Type}:(none:Option A).isNone=true:=rfl
theorem QN {b:fJ} {o es:Nat}:SA.ref (.loc b o es)=some (b,o):=rfl
theorem Er {b:fJ} {o es l:Nat}:SA.Cm (.loc b o es) l es=some (.loc b (o+l*es) es):=by simp [SA.Cm,Nat.beq_refl]
theorem QO {J:AH O} {cs:List AV} {o:Nat}:J.ld (.f cs) o=cs[o]? := rfl
def ldM (x:Option (dL O)) (o:Nat):Option AV:=match x with |some (.cells _ _ cs)=>cs[o]? | _=>none
theorem NJ {J:AH O} {b o:Nat}:J.ld (.n b) o=ldM (J.aa b) o:=rfl
theorem Es {ow:Bool} {el o:Nat} {cs:List AV}:ldM (some (.cells ow el cs):Option (dL O)) o=cs[o]? := rfl
def bF (cs:List AV) (o:Nat) (vs:List AV):List AV:=cs.take o++vs++cs.drop (o+vs.length)
def stM (J:AH O) (b:Nat) (x:Option (dL O)) (o:Nat) (vs:List AV):Option (AH O):=match x with |some (.cells true el cs)=>bif Nat.ble (o+vs.length) cs.length then some (J.put b (.cells true el (bF cs o vs))) else none |_=>none
theorem XB {J:AH O} {b o:Nat} {vs:List AV}:J.st (.n b) o vs=stM J b (J.aa b) o vs:=rfl
theorem QP {J:AH O} {b el o:Nat} {cs vs:List AV}:stM J b (some (.cells true el cs)) o vs=bif Nat.ble (o+vs.length) cs.length then some (J.put b (.cells true el (bF cs o vs))) else none:=rfl
theorem uG (cs:List AV):bF cs 0 []=cs:=by simp [bF]
theorem qW (c v:AV) (cs vs:List AV):bF (c::cs) 0 (v::vs)=v::bF cs 0 vs:=by
 simp only [bF,List.take_zero,List.nil_append,Nat.zero_add,List.length_cons,List.cons_append,List.drop_succ_cons]
theorem AP (c:AV) (cs vs:List AV) (o:Nat):bF (c::cs) (o+1) vs=c::bF cs o vs:=by
 simp only [bF,List.take_succ_cons,List.cons_append]
 rw [show o+1+vs.length=o+vs.length+1 by omega,List.drop_succ_cons]
theorem kJ {cs vs:List AV} {o:Nat} (h:o+vs.length<=cs.length):(bF cs o vs).length=cs.length:=by simp [bF];omega
theorem aE {J:AH O} {b:Nat} {x:dL O}:(J.put b x).aa b=some x:=by simp
theorem aq {J:AH O} {b q:Nat} {x:dL O} (h:q≠b):(J.put b x).aa q=J.aa q:=by simp [h]
theorem bd {J:AH O} {b q:Nat} (h:q≠b):(J.kill b).aa q=J.aa q:=by simp [h]
theorem XC {J:AH O} {b:Nat} {x y:dL O}:(J.put b x).put b y=J.put b y:=by
 simp only [AH.put,AH.mk.injEq,and_true]
 funext q
 cases Nat.beq q b<;>rfl
theorem I0 {p:Prop} [Decidable p] (h:p):decide p=true:=decide_eq_true h
theorem I1 {p:Prop} [Decidable p] (h:¬ p):decide p=false:=decide_eq_false h
theorem Et {a b:Int} (h:a=b):(a == b)=true:=by simp [h]
theorem AQ {a b:Int} (h:a≠b):(a == b)=false:=by simp [h]
theorem bG {n:Int} (h : -9223372036854775808<=n/\n<=9223372036854775807):IntKind.i64.wrap n=n:=Sh h.1 h.2
theorem j8 {n:Int} (h:0<=n/\n<18446744073709551616):IntKind.u64.wrap n=n:=Si h.1 h.2
theorem NK {n:Int} (h:0<=n/\n<256):IntKind.u8.wrap n=n:=WO h.1 h.2
theorem cu {J J':AH O} (h:Ext J J') {b:Nat} (hb:b<J.next):J'.aa b=J.aa b:=h.aa b hb
theorem CV {a b:Nat} (h:a<=b):Nat.ble a b=true:=Nat.ble_eq_true_of_le h
theorem I2 {A B:Type} {a:A} {f:A->B}:(some a).map f=some (f a):=rfl
theorem I3 {p:Prop} (h:p):Qp p=some ():=by simp [Qp,h]
theorem I4 {x y:Option AV} (h:x=y):aO x y=some ():=by unfold aO;cases Nf x y<;>simp [I3 h]
theorem SN {x y:Option (List AV)} (h:x=y):FE x y=some ():=by unfold FE;cases Ng x y<;>simp [I3 h]
theorem cv {a b:Nat}:Nat.ble a b=decide (a<=b):=by
 by_cases h:a<=b
 ·rw [Nat.ble_eq_true_of_le h,decide_eq_true h]
 ·rw [decide_eq_false h];cases hb:Nat.ble a b with |false=>rfl |true=>exact absurd (Nat.le_of_ble_eq_true hb) h
theorem CW {x:Option AV}:aO x x=some ():=I4 rfl
theorem I5 {x:Option (List AV)}:FE x x=some ():=SN rfl
theorem SO {n:Nat} (h:n≠0):Nat.beq n 0=false:=by cases n with |zero=>exact absurd rfl h |succ=>rfl
theorem I6 {J:AH O} {b:fJ} {o e n es:Nat}:J.bU (.loc b o e) n es=J.BM b o (n*es):=rfl
def XD (x:Option (dL O)) (o n:Nat):Option (List AV):=match x with |some (.cells _ _ cs)=>bif Nat.ble (o+n) cs.length then some ((cs.drop o).take n) else none |_=>none
theorem QQ {J:AH O} {b o n:Nat}:J.BM (.n b) o n=XD (J.aa b) o n:=rfl
theorem I7 {ow:Bool} {el o n:Nat} {cs:List AV}:XD (some (.cells ow el cs):Option (dL O)) o n=bif Nat.ble (o+n) cs.length then some ((cs.drop o).take n) else none:=rfl
theorem I8 {J:AH O} {cs:List AV} {o n:Nat}:J.BM (.f cs) o n=bif Nat.ble (o+n) cs.length then some ((cs.drop o).take n) else none:=rfl
theorem I9 {J:AH O} {b:fJ} {o e:Nat} {vs:List AV}:J.zZ (.loc b o e) vs=J.st b o vs:=rfl
theorem cF {J J':AH O} (hn:J.next<=J'.next) (h:∀ b,b<J.next->J'.aa b=J.aa b):Ext J J':=⟨hn,h⟩
theorem XE {g:Nat} (h:g<1000000):Nat.ble kx g=false:=by
 cases hb:Nat.ble kx g with
 |false=>rfl
 |true=>have:=Nat.le_of_ble_eq_true hb;simp only [kx] at this;omega
theorem dH:(type_of% @xd)/\(type_of% @List.length_cons.{0})/\(type_of% @List.length_nil.{0})/\(type_of% @List.getD_cons_zero.{0})/\(type_of% @List.getD_cons_succ.{0})/\(type_of% @List.getElem?_cons_zero.{0})/\(type_of% @List.getElem?_cons_succ.{0})/\(type_of% @Option.bind_some.{0,0})/\(type_of% @Option.bind_assoc.{0,0,0})/\(type_of% @Ep)/\(type_of% @QG)/\(type_of% @QH)/\(type_of% @QI)/\(type_of% @QJ)/\(type_of% @IS)/\(type_of% @Eo)/\(type_of% @QL)/\(type_of% @QM)/\(type_of% @XA)/\(type_of% @Qm)/\(type_of% @Qn)/\(type_of% @Qo)/\(type_of% @beq_true)/\(type_of% @beq_false)/\(type_of% @Bool.not_true)/\(type_of% @Bool.not_false)/\(type_of% @Bool.not_not)/\(type_of% @cond_true.{1})/\(type_of% @cond_false.{1})/\(type_of% @neI)/\(type_of% @I2)/\(type_of% @bW)/\(type_of% @eD)/\(type_of% @Bool.and_true)/\(type_of% @Bool.true_and)/\(type_of% @Bool.and_false)/\(type_of% @Bool.false_and)/\(type_of% @xe)/\(type_of% @xg)/\(type_of% @QN)/\(type_of% @Er)/\(type_of% @QO)/\(type_of% @NJ)/\(type_of% @Es)/\(type_of% @XB)/\(type_of% @QP)/\(type_of% @aE)/\(type_of% @XC)/\(type_of% @ak)/\(type_of% @cB)/\(type_of% @bO)/\(type_of% @uG)/\(type_of% @qW)/\(type_of% @AP)/\(type_of% @Int.toNat_natCast)/\(type_of% @Nat.zero_add)/\(type_of% @CW)/\(type_of% @I5)/\(type_of% @I6)/\(type_of% @I9)/\(type_of% @QQ)/\(type_of% @I7)/\(type_of% @I8)/\(type_of% @List.drop_zero.{0})/\(type_of% @List.take_succ_cons.{0})/\(type_of% @List.take_zero.{0})/\(type_of% @List.take_nil.{0})/\(type_of% @List.take_length.{0})/\(type_of% @Nat.mul_one)/\(type_of% @List.flatten_cons.{0})/\(type_of% @List.flatten_nil.{0})/\(type_of% @List.append_nil.{0})/\(type_of% @List.nil_append.{0})/\(type_of% @List.cons_append.{0}):=⟨@xd,@List.length_cons.{0},@List.length_nil.{0},@List.getD_cons_zero.{0},@List.getD_cons_succ.{0},@List.getElem?_cons_zero.{0},@List.getElem?_cons_succ.{0},@Option.bind_some.{0,0},@Option.bind_assoc.{0,0,0},@Ep,@QG,@QH,@QI,@QJ,@IS,@Eo,@QL,@QM,@XA,@Qm,@Qn,@Qo,@beq_true,@beq_false,@Bool.not_true,@Bool.not_false,@Bool.not_not,@cond_true.{1},@cond_false.{1},@neI,@I2,@bW,@eD,@Bool.and_true,@Bool.true_and,@Bool.and_false,@Bool.false_and,@xe,@xg,@QN,@Er,@QO,@NJ,@Es,@XB,@QP,@aE,@XC,@ak,@cB,@bO,@uG,@qW,@AP,@Int.toNat_natCast,@Nat.zero_add,@CW,@I5,@I6,@I9,@QQ,@I7,@I8,@List.drop_zero.{0},@List.take_succ_cons.{0},@List.take_zero.{0},@List.take_nil.{0},@List.take_length.{0},@Nat.mul_one,@List.flatten_cons.{0},@List.flatten_nil.{0},@List.append_nil.{0},@List.nil_append.{0},@List.cons_append.{0}⟩
theorem fU:(type_of% @cY)/\(type_of% @cZ)/\(type_of% @db)/\(type_of% @dd)/\(type_of% @dp)/\(type_of% @dq)/\(type_of% @du)/\(type_of% @XE)/\(type_of% @aq)/\(type_of% @I0)/\(type_of% @I1)/\(type_of% @Et)/\(type_of% @AQ)/\(type_of% @bG)/\(type_of% @j8)/\(type_of% @NK)/\(type_of% @CV):=⟨@cY,@cZ,@db,@dd,@dp,@dq,@du,@XE,@aq,@I0,@I1,@Et,@AQ,@bG,@j8,@NK,@CV⟩
theorem aN:(type_of% @bO)/\(type_of% @cB)/\(type_of% @cU)/\(type_of% @List.length_cons.{0})/\(type_of% @List.length_nil.{0})/\(type_of% @List.mem_cons.{0})/\(type_of% @List.not_mem_nil.{0})/\(type_of% @or_false)/\(type_of% @not_false_eq_true):=⟨@bO,@cB,@cU,@List.length_cons,@List.length_nil,@List.mem_cons,@List.not_mem_nil,@or_false,@not_false_eq_true⟩
/-- the run with facts: z agA,o arb on -/
theorem ku {O:Type} {σ σ':AH O} (h1:σ.next ≤ σ'.next:=by simp only [bO,cB,cU];omega) (h2:∀ b,b<σ.next → σ'.aa b=σ.aa b:=by intro b hb;simp -implicitDefEqProofs (disch:=(first |omega |rfl |assumption |(simp only [aN];first |omega |assumption))) only [aq,bd,ak,cu]):Ext σ σ':=cF h1 h2
theorem cj {a b:Prop} (h:a) (g:b):a ∧ b:=⟨h,g⟩
theorem zU0 {p:Prop} (t:p:=by simp (maxSteps:=2000000) -implicitDefEqProofs (disch:=(first |omega |rfl |assumption |(simp only [aN];first |omega |assumption))) only [Nat.reduceAdd,Nat.reduceMul,Nat.reduceLT,Int.reduceToNat,Int.reduceAdd,Int.reduceSub,Int.reduceMul,dH,fU]):p:=t
theorem Gd {p A:Prop} (a:A) (t:A → p:=by intro a;simp (maxSteps:=2000000) -implicitDefEqProofs (disch:=(first |omega |rfl |assumption |(simp only [aN];first |omega |assumption))) only [a,Nat.reduceAdd,Nat.reduceMul,Nat.reduceLT,Int.reduceToNat,Int.reduceAdd,Int.reduceSub,Int.reduceMul,dH,fU]):p:=t a
theorem Vt {p A B:Prop} (a:A) (b:B) (t:A → B → p:=by intro a b;simp (maxSteps:=2000000) -implicitDefEqProofs (disch:=(first |omega |rfl |assumption |(simp only [aN];first |omega |assumption))) only [a,b,Nat.reduceAdd,Nat.reduceMul,Nat.reduceLT,Int.reduceToNat,Int.reduceAdd,Int.reduceSub,Int.reduceMul,dH,fU]):p:=t a b
theorem QR {p A B C:Prop} (a:A) (b:B) (c:C) (t:A → B → C → p:=by intro a b c;simp (maxSteps:=2000000) -implicitDefEqProofs (disch:=(first |omega |rfl |assumption |(simp only [aN];first |omega |assumption))) only [a,b,c,Nat.reduceAdd,Nat.reduceMul,Nat.reduceLT,Int.reduceToNat,Int.reduceAdd,Int.reduceSub,Int.reduceMul,dH,fU]):p:=t a b c
theorem zU4 {p A B C D:Prop} (a:A) (b:B) (c:C) (d:D) (t:A → B → C → D → p:=by intro a b c d;simp (maxSteps:=2000000) -implicitDefEqProofs (disch:=(first |omega |rfl |assumption |(simp only [aN];first |omega |assumption))) only [a,b,c,d,Nat.reduceAdd,Nat.reduceMul,Nat.reduceLT,Int.reduceToNat,Int.reduceAdd,Int.reduceSub,Int.reduceMul,dH,fU]):p:=t a b c d
theorem zU5 {p A B C D E:Prop} (a:A) (b:B) (c:C) (d:D) (e:E) (t:A → B → C → D → E → p:=by intro a b c d e;simp (maxSteps:=2000000) -implicitDefEqProofs (disch:=(first |omega |rfl |assumption |(simp only [aN];first |omega |assumption))) only [a,b,c,d,e,Nat.reduceAdd,Nat.reduceMul,Nat.reduceLT,Int.reduceToNat,Int.reduceAdd,Int.reduceSub,Int.reduceMul,dH,fU]):p:=t a b c d e
theorem cd {p q:Prop} (h:q) (t:q → p:=by intro h;simp (maxSteps:=2000000) -implicitDefEqProofs (disch:=(first |omega |rfl |assumption |(simp only [aN];first |omega |assumption))) only [Nat.reduceAdd,Nat.reduceMul,Nat.reduceLT,Int.reduceToNat,Int.reduceAdd,Int.reduceSub,Int.reduceMul,dH,fU];exact h):p:=t h
theorem cO {p q A:Prop} (a:A) (h:q) (t:A → q → p:=by intro a h;simp (maxSteps:=2000000) -implicitDefEqProofs (disch:=(first |omega |rfl |assumption |(simp only [aN];first |omega |assumption))) only [a,Nat.reduceAdd,Nat.reduceMul,Nat.reduceLT,Int.reduceToNat,Int.reduceAdd,Int.reduceSub,Int.reduceMul,dH,fU];exact h):p:=t a h
theorem gg {p q A B:Prop} (a:A) (b:B) (h:q) (t:A → B → q → p:=by intro a b h;simp (maxSteps:=2000000) -implicitDefEqProofs (disch:=(first |omega |rfl |assumption |(simp only [aN];first |omega |assumption))) only [a,b,Nat.reduceAdd,Nat.reduceMul,Nat.reduceLT,Int.reduceToNat,Int.reduceAdd,Int.reduceSub,Int.reduceMul,dH,fU];exact h):p:=t a b h
theorem jN {p q A B C:Prop} (a:A) (b:B) (c:C) (h:q) (t:A → B → C → q → p:=by intro a b c h;simp (maxSteps:=2000000) -implicitDefEqProofs (disch:=(first |omega |rfl |assumption |(simp only [aN];first |omega |assumption))) only [a,b,c,Nat.reduceAdd,Nat.reduceMul,Nat.reduceLT,Int.reduceToNat,Int.reduceAdd,Int.reduceSub,Int.reduceMul,dH,fU];exact h):p:=t a b c h
theorem AR {p q A B C D:Prop} (a:A) (b:B) (c:C) (d:D) (h:q) (t:A → B → C → D → q → p:=by intro a b c d h;simp (maxSteps:=2000000) -implicitDefEqProofs (disch:=(first |omega |rfl |assumption |(simp only [aN];first |omega |assumption))) only [a,b,c,d,Nat.reduceAdd,Nat.reduceMul,Nat.reduceLT,Int.reduceToNat,Int.reduceAdd,Int.reduceSub,Int.reduceMul,dH,fU];exact h):p:=t a b c d h
theorem oQ {p q A B C D E:Prop} (a:A) (b:B) (c:C) (d:D) (e:E) (h:q) (t:A → B → C → D → E → q → p:=by intro a b c d e h;simp (maxSteps:=2000000) -implicitDefEqProofs (disch:=(first |omega |rfl |assumption |(simp only [aN];first |omega |assumption))) only [a,b,c,d,e,Nat.reduceAdd,Nat.reduceMul,Nat.reduceLT,Int.reduceToNat,Int.reduceAdd,Int.reduceSub,Int.reduceMul,dH,fU];exact h):p:=t a b c d e h
theorem zO0 {p:Prop} (t:p:=by simp -implicitDefEqProofs only [Nat.reduceAdd,Nat.reduceMul,Nat.reduceLT,Int.reduceToNat,Int.reduceAdd,Int.reduceSub,Int.reduceMul,dH,cY,cZ,db,dd,dp,dq,du,cv,Nat.reduceLeDiff,decide_true,decide_false]):p:=t
theorem zO1 {p A:Prop} (a:A) (t:A → p:=by intro a;simp -implicitDefEqProofs only [a,Nat.reduceAdd,Nat.reduceMul,Nat.reduceLT,Int.reduceToNat,Int.reduceAdd,Int.reduceSub,Int.reduceMul,dH,cY,cZ,db,dd,dp,dq,du,cv,Nat.reduceLeDiff,decide_true,decide_false]):p:=t a
theorem zO2 {p A B:Prop} (a:A) (b:B) (t:A → B → p:=by intro a b;simp -implicitDefEqProofs only [a,b,Nat.reduceAdd,Nat.reduceMul,Nat.reduceLT,Int.reduceToNat,Int.reduceAdd,Int.reduceSub,Int.reduceMul,dH,cY,cZ,db,dd,dp,dq,du,cv,Nat.reduceLeDiff,decide_true,decide_false]):p:=t a b
theorem zO3 {p A B C:Prop} (a:A) (b:B) (c:C) (t:A → B → C → p:=by intro a b c;simp -implicitDefEqProofs only [a,b,c,Nat.reduceAdd,Nat.reduceMul,Nat.reduceLT,Int.reduceToNat,Int.reduceAdd,Int.reduceSub,Int.reduceMul,dH,cY,cZ,db,dd,dp,dq,du,cv,Nat.reduceLeDiff,decide_true,decide_false]):p:=t a b c
theorem zO4 {p A B C D:Prop} (a:A) (b:B) (c:C) (d:D) (t:A → B → C → D → p:=by intro a b c d;simp -implicitDefEqProofs only [a,b,c,d,Nat.reduceAdd,Nat.reduceMul,Nat.reduceLT,Int.reduceToNat,Int.reduceAdd,Int.reduceSub,Int.reduceMul,dH,cY,cZ,db,dd,dp,dq,du,cv,Nat.reduceLeDiff,decide_true,decide_false]):p:=t a b c d
theorem zO5 {p A B C D E:Prop} (a:A) (b:B) (c:C) (d:D) (e:E) (t:A → B → C → D → E → p:=by intro a b c d e;simp -implicitDefEqProofs only [a,b,c,d,e,Nat.reduceAdd,Nat.reduceMul,Nat.reduceLT,Int.reduceToNat,Int.reduceAdd,Int.reduceSub,Int.reduceMul,dH,cY,cZ,db,dd,dp,dq,du,cv,Nat.reduceLeDiff,decide_true,decide_false]):p:=t a b c d e
theorem yx {p q:Prop} (h:q) (t:q → p:=by intro h;simp -implicitDefEqProofs only [Nat.reduceAdd,Nat.reduceMul,Nat.reduceLT,Int.reduceToNat,Int.reduceAdd,Int.reduceSub,Int.reduceMul,dH,cY,cZ,db,dd,dp,dq,du,cv,Nat.reduceLeDiff,decide_true,decide_false];exact h):p:=t h
theorem lk {p q A:Prop} (a:A) (h:q) (t:A → q → p:=by intro a h;simp -implicitDefEqProofs only [a,Nat.reduceAdd,Nat.reduceMul,Nat.reduceLT,Int.reduceToNat,Int.reduceAdd,Int.reduceSub,Int.reduceMul,dH,cY,cZ,db,dd,dp,dq,du,cv,Nat.reduceLeDiff,decide_true,decide_false];exact h):p:=t a h
theorem HF {p q A B:Prop} (a:A) (b:B) (h:q) (t:A → B → q → p:=by intro a b h;simp -implicitDefEqProofs only [a,b,Nat.reduceAdd,Nat.reduceMul,Nat.reduceLT,Int.reduceToNat,Int.reduceAdd,Int.reduceSub,Int.reduceMul,dH,cY,cZ,db,dd,dp,dq,du,cv,Nat.reduceLeDiff,decide_true,decide_false];exact h):p:=t a b h
theorem SP {p q A B C:Prop} (a:A) (b:B) (c:C) (h:q) (t:A → B → C → q → p:=by intro a b c h;simp -implicitDefEqProofs only [a,b,c,Nat.reduceAdd,Nat.reduceMul,Nat.reduceLT,Int.reduceToNat,Int.reduceAdd,Int.reduceSub,Int.reduceMul,dH,cY,cZ,db,dd,dp,dq,du,cv,Nat.reduceLeDiff,decide_true,decide_false];exact h):p:=t a b c h
theorem Vu {p q A B C D:Prop} (a:A) (b:B) (c:C) (d:D) (h:q) (t:A → B → C → D → q → p:=by intro a b c d h;simp -implicitDefEqProofs only [a,b,c,d,Nat.reduceAdd,Nat.reduceMul,Nat.reduceLT,Int.reduceToNat,Int.reduceAdd,Int.reduceSub,Int.reduceMul,dH,cY,cZ,db,dd,dp,dq,du,cv,Nat.reduceLeDiff,decide_true,decide_false];exact h):p:=t a b c d h
theorem sy {p q A B C D E:Prop} (a:A) (b:B) (c:C) (d:D) (e:E) (h:q) (t:A → B → C → D → E → q → p:=by intro a b c d e h;simp -implicitDefEqProofs only [a,b,c,d,e,Nat.reduceAdd,Nat.reduceMul,Nat.reduceLT,Int.reduceToNat,Int.reduceAdd,Int.reduceSub,Int.reduceMul,dH,cY,cZ,db,dd,dp,dq,du,cv,Nat.reduceLeDiff,decide_true,decide_false];exact h):p:=t a b c d e h
theorem iZ {p:Prop} (t:p:=by simp -implicitDefEqProofs (disch:=omega) only [aq,aE,bd,ak]):p:=t
theorem Vv {p q:Prop} (h:q) (t:q → p:=by intro h;simp -implicitDefEqProofs (disch:=omega) only [aq,aE,bd,ak];exact h):p:=t h
end Go.Abs
