/-
  AbsSim: rules by which what is run is reckoned: the heap's reads and writes, words that fit, truths that are known.
-/
import Derived.Test.YtncohicmiihjiaaGreatAbsBits
import Derived.Test.YtncohicmiihjiaaGreatAbsWord
set_option linter.unusedVariables false
set_option linter.unusedSimpArgs false
set_option linter.constructorNameAsVariable false
namespace Go.Abs
open Go
variable {O:Type}
theorem wZ {n:Nat}:Nat.beq n n=true:=Nat.beq_refl n
theorem P2 {n:Nat} {cs:List AV}:AV.asAgg n (.agg cs)=bif Nat.beq cs.length n then some cs else none:=rfl
theorem P3 {n:Nat} {cs:List AV}:AV.ay n (.aB cs)=bif Nat.beq cs.length n then some cs else none:=rfl
theorem WJ {f:Option (Fn × List AV × List AV)}:AV.Hk (.fn f)=some f:=rfl
theorem Ee {A B:Type} {f:A->Option B}:(none:Option A).bind f=none:=rfl
theorem w9 {A:Type} {a:A}:(some a).isNone=false:=rfl
theorem xa {A:Type}:(none:Option A).isNone=true:=rfl
theorem P9 {b:fH} {o es:Nat}:SA.ref (.loc b o es)=some (b,o):=rfl
theorem Ef {b:fH} {o es l:Nat}:SA.B4 (.loc b o es) l es=some (.loc b (o+l*es) es):=by simp [SA.B4,Nat.beq_refl]
theorem Qa {J:AH O} {cs:List AV} {o:Nat}:J.ld (.f cs) o=cs[o]? := rfl
def ldM (x:Option (eY O)) (o:Nat):Option AV:=match x with |some (.cells _ _ cs)=>cs[o]? | _=>none
theorem MY {J:AH O} {b o:Nat}:J.ld (.n b) o=ldM (J.aa b) o:=rfl
theorem Eg {ow:Bool} {el o:Nat} {cs:List AV}:ldM (some (.cells ow el cs):Option (eY O)) o=cs[o]? := rfl
def bQ (cs:List AV) (o:Nat) (vs:List AV):List AV:=cs.take o++vs++cs.drop (o+vs.length)
def stM (J:AH O) (b:Nat) (x:Option (eY O)) (o:Nat) (vs:List AV):Option (AH O):=match x with |some (.cells true el cs)=>bif Nat.ble (o+vs.length) cs.length then some (J.put b (.cells true el (bQ cs o vs))) else none |_=>none
theorem WL {J:AH O} {b o:Nat} {vs:List AV}:J.st (.n b) o vs=stM J b (J.aa b) o vs:=rfl
theorem Qb {J:AH O} {b el o:Nat} {cs vs:List AV}:stM J b (some (.cells true el cs)) o vs=bif Nat.ble (o+vs.length) cs.length then some (J.put b (.cells true el (bQ cs o vs))) else none:=rfl
theorem uG (cs:List AV):bQ cs 0 []=cs:=by simp [bQ]
theorem ri (c v:AV) (cs vs:List AV):bQ (c::cs) 0 (v::vs)=v::bQ cs 0 vs:=by
 simp only [bQ,List.take_zero,List.nil_append,Nat.zero_add,List.length_cons,List.cons_append,List.drop_succ_cons]
theorem Ax (c:AV) (cs vs:List AV) (o:Nat):bQ (c::cs) (o+1) vs=c::bQ cs o vs:=by
 simp only [bQ,List.take_succ_cons,List.cons_append]
 rw [show o+1+vs.length=o+vs.length+1 by omega,List.drop_succ_cons]
theorem kK {cs vs:List AV} {o:Nat} (h:o+vs.length<=cs.length):(bQ cs o vs).length=cs.length:=by simp [bQ];omega
theorem aH {J:AH O} {b:Nat} {x:eY O}:(J.put b x).aa b=some x:=by simp
theorem aA {J:AH O} {b q:Nat} {x:eY O} (h:q≠b):(J.put b x).aa q=J.aa q:=by simp [h]
theorem bA {J:AH O} {b q:Nat} (h:q≠b):(J.kill b).aa q=J.aa q:=by simp [h]
theorem WN {J:AH O} {b:Nat} {x y:eY O}:(J.put b x).put b y=J.put b y:=by
 simp only [AH.put,AH.mk.injEq,and_true]
 funext q
 cases Nat.beq q b<;>rfl
theorem IG {p:Prop} [Decidable p] (h:p):decide p=true:=decide_eq_true h
theorem IH {p:Prop} [Decidable p] (h:¬ p):decide p=false:=decide_eq_false h
theorem II {a b:Int} (h:a=b):(a == b)=true:=by simp [h]
theorem Eh {a b:Int} (h:a≠b):(a == b)=false:=by simp [h]
theorem cd {n:Int} (h : -9223372036854775808<=n/\n<=9223372036854775807):IntKind.i64.wrap n=n:=Rt h.1 h.2
theorem mA {n:Int} (h:0<=n/\n<18446744073709551616):IntKind.u64.wrap n=n:=Ru h.1 h.2
theorem M0 {n:Int} (h:0<=n/\n<256):IntKind.u8.wrap n=n:=V7 h.1 h.2
theorem cB {J J':AH O} (h:Ext J J') {b:Nat} (hb:b<J.next):J'.aa b=J.aa b:=h.aa b hb
theorem CE {a b:Nat} (h:a<=b):Nat.ble a b=true:=Nat.ble_eq_true_of_le h
theorem IJ {A B:Type} {a:A} {f:A->B}:(some a).map f=some (f a):=rfl
theorem IK {p:Prop} (h:p):PA p=some ():=by simp [PA,h]
theorem IL {x y:Option AV} (h:x=y):aT x y=some ():=by unfold aT;cases MD x y<;>simp [IK h]
theorem RW {x y:Option (List AV)} (h:x=y):Ft x y=some ():=by unfold Ft;cases ME x y<;>simp [IK h]
theorem cM {a b:Nat}:Nat.ble a b=decide (a<=b):=by
 by_cases h:a<=b
 ·rw [Nat.ble_eq_true_of_le h,decide_eq_true h]
 ·rw [decide_eq_false h];cases hb:Nat.ble a b with |false=>rfl |true=>exact absurd (Nat.le_of_ble_eq_true hb) h
theorem CF {x:Option AV}:aT x x=some ():=IL rfl
theorem IM {x:Option (List AV)}:Ft x x=some ():=RW rfl
theorem RX {n:Nat} (h:n≠0):Nat.beq n 0=false:=by cases n with |zero=>exact absurd rfl h |succ=>rfl
theorem IN {J:AH O} {b:fH} {o e n es:Nat}:J.bT (.loc b o e) n es=J.Bu b o (n*es):=rfl
def WO (x:Option (eY O)) (o n:Nat):Option (List AV):=match x with |some (.cells _ _ cs)=>bif Nat.ble (o+n) cs.length then some ((cs.drop o).take n) else none |_=>none
theorem Qc {J:AH O} {b o n:Nat}:J.Bu (.n b) o n=WO (J.aa b) o n:=rfl
theorem IP {ow:Bool} {el o n:Nat} {cs:List AV}:WO (some (.cells ow el cs):Option (eY O)) o n=bif Nat.ble (o+n) cs.length then some ((cs.drop o).take n) else none:=rfl
theorem IQ {J:AH O} {cs:List AV} {o n:Nat}:J.Bu (.f cs) o n=bif Nat.ble (o+n) cs.length then some ((cs.drop o).take n) else none:=rfl
theorem IS {J:AH O} {b:fH} {o e:Nat} {vs:List AV}:J.zU (.loc b o e) vs=J.st b o vs:=rfl
theorem cN {J J':AH O} (hn:J.next<=J'.next) (h:∀ b,b<J.next->J'.aa b=J.aa b):Ext J J':=⟨hn,h⟩
theorem WQ {g:Nat} (h:g<1000000):Nat.ble jK g=false:=by
 cases hb:Nat.ble jK g with
 |false=>rfl
 |true=>have:=Nat.le_of_ble_eq_true hb;simp only [jK] at this;omega
theorem agh {a b:Nat} (h:a≠b):Nat.beq a b=false:=by
 cases e:Nat.beq a b with
 |false=>rfl
 |true=>exact absurd (Nat.eq_of_beq_eq_true e) h
theorem IT {G:List (Nat × Sm O)} {c site:Nat} {fi ca:List AV} {env:List (Nat × AV)} {J:AH O}:xV G (some (.func c,fi,ca)) site env J=ny G (c+2000000) (fi++[.fn (some (.yield J.next,[],[]))]++ca) ((J.az 1).put J.next (.loop site env .ready)):=rfl
theorem eA:(type_of% @wZ)/\(type_of% @List.length_cons.{0})/\(type_of% @List.length_nil.{0})/\(type_of% @List.getD_cons_zero.{0})/\(type_of% @List.getD_cons_succ.{0})/\(type_of% @List.getElem?_cons_zero.{0})/\(type_of% @List.getElem?_cons_succ.{0})/\(type_of% @Option.bind_some.{0,0})/\(type_of% @Option.bind_assoc.{0,0,0})/\(type_of% @Ee)/\(type_of% @PU)/\(type_of% @PW)/\(type_of% @PX)/\(type_of% @PY)/\(type_of% @Iu)/\(type_of% @Ec)/\(type_of% @P2)/\(type_of% @P3)/\(type_of% @WJ)/\(type_of% @Px)/\(type_of% @Py)/\(type_of% @Pz)/\(type_of% @beq_true)/\(type_of% @beq_false)/\(type_of% @Bool.not_true)/\(type_of% @Bool.not_false)/\(type_of% @Bool.not_not)/\(type_of% @cond_true.{1})/\(type_of% @cond_false.{1})/\(type_of% @neI)/\(type_of% @IJ)/\(type_of% @cH)/\(type_of% @eG)/\(type_of% @Bool.and_true)/\(type_of% @Bool.true_and)/\(type_of% @Bool.and_false)/\(type_of% @Bool.false_and)/\(type_of% @w9)/\(type_of% @xa)/\(type_of% @P9)/\(type_of% @Ef)/\(type_of% @Qa)/\(type_of% @MY)/\(type_of% @Eg)/\(type_of% @WL)/\(type_of% @Qb)/\(type_of% @aH)/\(type_of% @WN)/\(type_of% @au)/\(type_of% @cI)/\(type_of% @bR)/\(type_of% @uG)/\(type_of% @ri)/\(type_of% @Ax)/\(type_of% @Int.toNat_natCast)/\(type_of% @Nat.zero_add)/\(type_of% @CF)/\(type_of% @IM)/\(type_of% @IN)/\(type_of% @IS)/\(type_of% @Qc)/\(type_of% @IP)/\(type_of% @IQ)/\(type_of% @List.drop_zero.{0})/\(type_of% @List.take_succ_cons.{0})/\(type_of% @List.take_zero.{0})/\(type_of% @List.take_nil.{0})/\(type_of% @List.take_length.{0})/\(type_of% @Nat.mul_one)/\(type_of% @List.flatten_cons.{0})/\(type_of% @List.flatten_nil.{0})/\(type_of% @List.append_nil.{0})/\(type_of% @List.nil_append.{0})/\(type_of% @List.cons_append.{0}):=⟨@wZ,@List.length_cons.{0},@List.length_nil.{0},@List.getD_cons_zero.{0},@List.getD_cons_succ.{0},@List.getElem?_cons_zero.{0},@List.getElem?_cons_succ.{0},@Option.bind_some.{0,0},@Option.bind_assoc.{0,0,0},@Ee,@PU,@PW,@PX,@PY,@Iu,@Ec,@P2,@P3,@WJ,@Px,@Py,@Pz,@beq_true,@beq_false,@Bool.not_true,@Bool.not_false,@Bool.not_not,@cond_true.{1},@cond_false.{1},@neI,@IJ,@cH,@eG,@Bool.and_true,@Bool.true_and,@Bool.and_false,@Bool.false_and,@w9,@xa,@P9,@Ef,@Qa,@MY,@Eg,@WL,@Qb,@aH,@WN,@au,@cI,@bR,@uG,@ri,@Ax,@Int.toNat_natCast,@Nat.zero_add,@CF,@IM,@IN,@IS,@Qc,@IP,@IQ,@List.drop_zero.{0},@List.take_succ_cons.{0},@List.take_zero.{0},@List.take_nil.{0},@List.take_length.{0},@Nat.mul_one,@List.flatten_cons.{0},@List.flatten_nil.{0},@List.append_nil.{0},@List.nil_append.{0},@List.cons_append.{0}⟩
theorem gM:(type_of% @dK)/\(type_of% @dL)/\(type_of% @dM)/\(type_of% @dN)/\(type_of% @dO)/\(type_of% @dQ)/\(type_of% @dS)/\(type_of% @WQ)/\(type_of% @aA)/\(type_of% @IG)/\(type_of% @IH)/\(type_of% @II)/\(type_of% @Eh)/\(type_of% @cd)/\(type_of% @mA)/\(type_of% @M0)/\(type_of% @CE):=⟨@dK,@dL,@dM,@dN,@dO,@dQ,@dS,@WQ,@aA,@IG,@IH,@II,@Eh,@cd,@mA,@M0,@CE⟩
theorem aO:(type_of% @bR)/\(type_of% @cI)/\(type_of% @dd)/\(type_of% @List.length_cons.{0})/\(type_of% @List.length_nil.{0})/\(type_of% @List.mem_cons.{0})/\(type_of% @List.not_mem_nil.{0})/\(type_of% @or_false)/\(type_of% @not_false_eq_true):=⟨@bR,@cI,@dd,@List.length_cons,@List.length_nil,@List.mem_cons,@List.not_mem_nil,@or_false,@not_false_eq_true⟩
/-- the run with facts: z agi,o aqN on -/
theorem rj {O:Type} {σ σ':AH O} (h1:σ.next ≤ σ'.next:=by simp only [bR,cI,dd];omega) (h2:∀ b,b<σ.next → σ'.aa b=σ.aa b:=by intro b hb;simp -implicitDefEqProofs (disch:=(first |omega |rfl |assumption |(simp only [aO];first |omega |assumption))) only [aA,bA,au,cB]):Ext σ σ':=cN h1 h2
theorem cj {a b:Prop} (h:a) (g:b):a ∧ b:=⟨h,g⟩
theorem zU0 {p:Prop} (t:p:=by simp (maxSteps:=2000000) -implicitDefEqProofs (disch:=(first |omega |rfl |assumption |(simp only [aO];first |omega |assumption))) only [Nat.reduceAdd,Nat.reduceMul,Nat.reduceLT,Int.reduceToNat,Int.reduceAdd,Int.reduceSub,Int.reduceMul,eA,gM]):p:=t
theorem IU {p A:Prop} (a:A) (t:A → p:=by intro a;simp (maxSteps:=2000000) -implicitDefEqProofs (disch:=(first |omega |rfl |assumption |(simp only [aO];first |omega |assumption))) only [a,Nat.reduceAdd,Nat.reduceMul,Nat.reduceLT,Int.reduceToNat,Int.reduceAdd,Int.reduceSub,Int.reduceMul,eA,gM]):p:=t a
theorem UC {p A B:Prop} (a:A) (b:B) (t:A → B → p:=by intro a b;simp (maxSteps:=2000000) -implicitDefEqProofs (disch:=(first |omega |rfl |assumption |(simp only [aO];first |omega |assumption))) only [a,b,Nat.reduceAdd,Nat.reduceMul,Nat.reduceLT,Int.reduceToNat,Int.reduceAdd,Int.reduceSub,Int.reduceMul,eA,gM]):p:=t a b
theorem Qd {p A B C:Prop} (a:A) (b:B) (c:C) (t:A → B → C → p:=by intro a b c;simp (maxSteps:=2000000) -implicitDefEqProofs (disch:=(first |omega |rfl |assumption |(simp only [aO];first |omega |assumption))) only [a,b,c,Nat.reduceAdd,Nat.reduceMul,Nat.reduceLT,Int.reduceToNat,Int.reduceAdd,Int.reduceSub,Int.reduceMul,eA,gM]):p:=t a b c
theorem zU4 {p A B C D:Prop} (a:A) (b:B) (c:C) (d:D) (t:A → B → C → D → p:=by intro a b c d;simp (maxSteps:=2000000) -implicitDefEqProofs (disch:=(first |omega |rfl |assumption |(simp only [aO];first |omega |assumption))) only [a,b,c,d,Nat.reduceAdd,Nat.reduceMul,Nat.reduceLT,Int.reduceToNat,Int.reduceAdd,Int.reduceSub,Int.reduceMul,eA,gM]):p:=t a b c d
theorem zU5 {p A B C D E:Prop} (a:A) (b:B) (c:C) (d:D) (e:E) (t:A → B → C → D → E → p:=by intro a b c d e;simp (maxSteps:=2000000) -implicitDefEqProofs (disch:=(first |omega |rfl |assumption |(simp only [aO];first |omega |assumption))) only [a,b,c,d,e,Nat.reduceAdd,Nat.reduceMul,Nat.reduceLT,Int.reduceToNat,Int.reduceAdd,Int.reduceSub,Int.reduceMul,eA,gM]):p:=t a b c d e
theorem bZ {p q:Prop} (h:q) (t:q → p:=by intro h;simp (maxSteps:=2000000) -implicitDefEqProofs (disch:=(first |omega |rfl |assumption |(simp only [aO];first |omega |assumption))) only [Nat.reduceAdd,Nat.reduceMul,Nat.reduceLT,Int.reduceToNat,Int.reduceAdd,Int.reduceSub,Int.reduceMul,eA,gM];exact h):p:=t h
theorem cw {p q A:Prop} (a:A) (h:q) (t:A → q → p:=by intro a h;simp (maxSteps:=2000000) -implicitDefEqProofs (disch:=(first |omega |rfl |assumption |(simp only [aO];first |omega |assumption))) only [a,Nat.reduceAdd,Nat.reduceMul,Nat.reduceLT,Int.reduceToNat,Int.reduceAdd,Int.reduceSub,Int.reduceMul,eA,gM];exact h):p:=t a h
theorem gh {p q A B:Prop} (a:A) (b:B) (h:q) (t:A → B → q → p:=by intro a b h;simp (maxSteps:=2000000) -implicitDefEqProofs (disch:=(first |omega |rfl |assumption |(simp only [aO];first |omega |assumption))) only [a,b,Nat.reduceAdd,Nat.reduceMul,Nat.reduceLT,Int.reduceToNat,Int.reduceAdd,Int.reduceSub,Int.reduceMul,eA,gM];exact h):p:=t a b h
theorem jE {p q A B C:Prop} (a:A) (b:B) (c:C) (h:q) (t:A → B → C → q → p:=by intro a b c h;simp (maxSteps:=2000000) -implicitDefEqProofs (disch:=(first |omega |rfl |assumption |(simp only [aO];first |omega |assumption))) only [a,b,c,Nat.reduceAdd,Nat.reduceMul,Nat.reduceLT,Int.reduceToNat,Int.reduceAdd,Int.reduceSub,Int.reduceMul,eA,gM];exact h):p:=t a b c h
theorem BA {p q A B C D:Prop} (a:A) (b:B) (c:C) (d:D) (h:q) (t:A → B → C → D → q → p:=by intro a b c d h;simp (maxSteps:=2000000) -implicitDefEqProofs (disch:=(first |omega |rfl |assumption |(simp only [aO];first |omega |assumption))) only [a,b,c,d,Nat.reduceAdd,Nat.reduceMul,Nat.reduceLT,Int.reduceToNat,Int.reduceAdd,Int.reduceSub,Int.reduceMul,eA,gM];exact h):p:=t a b c d h
theorem rl {p q A B C D E:Prop} (a:A) (b:B) (c:C) (d:D) (e:E) (h:q) (t:A → B → C → D → E → q → p:=by intro a b c d e h;simp (maxSteps:=2000000) -implicitDefEqProofs (disch:=(first |omega |rfl |assumption |(simp only [aO];first |omega |assumption))) only [a,b,c,d,e,Nat.reduceAdd,Nat.reduceMul,Nat.reduceLT,Int.reduceToNat,Int.reduceAdd,Int.reduceSub,Int.reduceMul,eA,gM];exact h):p:=t a b c d e h
theorem zO0 {p:Prop} (t:p:=by simp -implicitDefEqProofs only [Nat.reduceAdd,Nat.reduceMul,Nat.reduceLT,Int.reduceToNat,Int.reduceAdd,Int.reduceSub,Int.reduceMul,eA,dK,dL,dM,dN,dO,dQ,dS,cM,Nat.reduceLeDiff,decide_true,decide_false]):p:=t
theorem zO1 {p A:Prop} (a:A) (t:A → p:=by intro a;simp -implicitDefEqProofs only [a,Nat.reduceAdd,Nat.reduceMul,Nat.reduceLT,Int.reduceToNat,Int.reduceAdd,Int.reduceSub,Int.reduceMul,eA,dK,dL,dM,dN,dO,dQ,dS,cM,Nat.reduceLeDiff,decide_true,decide_false]):p:=t a
theorem zO2 {p A B:Prop} (a:A) (b:B) (t:A → B → p:=by intro a b;simp -implicitDefEqProofs only [a,b,Nat.reduceAdd,Nat.reduceMul,Nat.reduceLT,Int.reduceToNat,Int.reduceAdd,Int.reduceSub,Int.reduceMul,eA,dK,dL,dM,dN,dO,dQ,dS,cM,Nat.reduceLeDiff,decide_true,decide_false]):p:=t a b
theorem zO3 {p A B C:Prop} (a:A) (b:B) (c:C) (t:A → B → C → p:=by intro a b c;simp -implicitDefEqProofs only [a,b,c,Nat.reduceAdd,Nat.reduceMul,Nat.reduceLT,Int.reduceToNat,Int.reduceAdd,Int.reduceSub,Int.reduceMul,eA,dK,dL,dM,dN,dO,dQ,dS,cM,Nat.reduceLeDiff,decide_true,decide_false]):p:=t a b c
theorem zO4 {p A B C D:Prop} (a:A) (b:B) (c:C) (d:D) (t:A → B → C → D → p:=by intro a b c d;simp -implicitDefEqProofs only [a,b,c,d,Nat.reduceAdd,Nat.reduceMul,Nat.reduceLT,Int.reduceToNat,Int.reduceAdd,Int.reduceSub,Int.reduceMul,eA,dK,dL,dM,dN,dO,dQ,dS,cM,Nat.reduceLeDiff,decide_true,decide_false]):p:=t a b c d
theorem zO5 {p A B C D E:Prop} (a:A) (b:B) (c:C) (d:D) (e:E) (t:A → B → C → D → E → p:=by intro a b c d e;simp -implicitDefEqProofs only [a,b,c,d,e,Nat.reduceAdd,Nat.reduceMul,Nat.reduceLT,Int.reduceToNat,Int.reduceAdd,Int.reduceSub,Int.reduceMul,eA,dK,dL,dM,dN,dO,dQ,dS,cM,Nat.reduceLeDiff,decide_true,decide_false]):p:=t a b c d e
theorem zE {p q:Prop} (h:q) (t:q → p:=by intro h;simp -implicitDefEqProofs only [Nat.reduceAdd,Nat.reduceMul,Nat.reduceLT,Int.reduceToNat,Int.reduceAdd,Int.reduceSub,Int.reduceMul,eA,dK,dL,dM,dN,dO,dQ,dS,cM,Nat.reduceLeDiff,decide_true,decide_false];exact h):p:=t h
theorem kf {p q A:Prop} (a:A) (h:q) (t:A → q → p:=by intro a h;simp -implicitDefEqProofs only [a,Nat.reduceAdd,Nat.reduceMul,Nat.reduceLT,Int.reduceToNat,Int.reduceAdd,Int.reduceSub,Int.reduceMul,eA,dK,dL,dM,dN,dO,dQ,dS,cM,Nat.reduceLeDiff,decide_true,decide_false];exact h):p:=t a h
theorem Hr {p q A B:Prop} (a:A) (b:B) (h:q) (t:A → B → q → p:=by intro a b h;simp -implicitDefEqProofs only [a,b,Nat.reduceAdd,Nat.reduceMul,Nat.reduceLT,Int.reduceToNat,Int.reduceAdd,Int.reduceSub,Int.reduceMul,eA,dK,dL,dM,dN,dO,dQ,dS,cM,Nat.reduceLeDiff,decide_true,decide_false];exact h):p:=t a b h
theorem RY {p q A B C:Prop} (a:A) (b:B) (c:C) (h:q) (t:A → B → C → q → p:=by intro a b c h;simp -implicitDefEqProofs only [a,b,c,Nat.reduceAdd,Nat.reduceMul,Nat.reduceLT,Int.reduceToNat,Int.reduceAdd,Int.reduceSub,Int.reduceMul,eA,dK,dL,dM,dN,dO,dQ,dS,cM,Nat.reduceLeDiff,decide_true,decide_false];exact h):p:=t a b c h
theorem UD {p q A B C D:Prop} (a:A) (b:B) (c:C) (d:D) (h:q) (t:A → B → C → D → q → p:=by intro a b c d h;simp -implicitDefEqProofs only [a,b,c,d,Nat.reduceAdd,Nat.reduceMul,Nat.reduceLT,Int.reduceToNat,Int.reduceAdd,Int.reduceSub,Int.reduceMul,eA,dK,dL,dM,dN,dO,dQ,dS,cM,Nat.reduceLeDiff,decide_true,decide_false];exact h):p:=t a b c d h
theorem tg {p q A B C D E:Prop} (a:A) (b:B) (c:C) (d:D) (e:E) (h:q) (t:A → B → C → D → E → q → p:=by intro a b c d e h;simp -implicitDefEqProofs only [a,b,c,d,e,Nat.reduceAdd,Nat.reduceMul,Nat.reduceLT,Int.reduceToNat,Int.reduceAdd,Int.reduceSub,Int.reduceMul,eA,dK,dL,dM,dN,dO,dQ,dS,cM,Nat.reduceLeDiff,decide_true,decide_false];exact h):p:=t a b c d e h
theorem hU {p:Prop} (t:p:=by simp -implicitDefEqProofs (disch:=omega) only [aA,aH,bA,au]):p:=t
theorem UE {p q:Prop} (h:q) (t:q → p:=by intro h;simp -implicitDefEqProofs (disch:=omega) only [aA,aH,bA,au];exact h):p:=t h
end Go.Abs
