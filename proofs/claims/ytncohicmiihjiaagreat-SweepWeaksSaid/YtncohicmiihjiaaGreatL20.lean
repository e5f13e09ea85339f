/-
  Objects are made in a new store, one behind the other, beside the document's list. No conditions.
-/
import Derived.Test.YtncohicmiihjiaaGreatR16
import Derived.Test.YtncohicmiihjiaaGreatR7
import Derived.Test.YtncohicmiihjiaaGreatAbsIn
set_option linter.unusedVariables false
set_option linter.unusedSimpArgs false
set_option linter.constructorNameAsVariable false
set_option linter.unusedSimpArgs false
set_option linter.unusedVariables false
set_option linter.unusedSectionVars false
set_option maxHeartbeats 2000000
namespace Go.Abs.Tryz
open Go Go.Abs
variable {O:Type}
theorem Qg {t:Int} (h : -9223372036854775808<=t/\t<=9223372036854775807):bG .and .i64 t 15=(((t % 16).toNat:Nat):Int):=by
 show IntKind.i64.wrap (((BitVec.ofInt 64 t &&& BitVec.ofInt 64 15).toNat:Nat):Int)=_
 rw [BitVec.toNat_and,eK (x:=15) (by decide) (by decide),BitVec.toNat_ofInt,show (15:Int).toNat=2 ^ 4 - 1 from rfl,Nat.and_two_pow_sub_one_eq_mod]
 have h1:0<=t % ((2 ^ 64:Nat):Int):=Int.emod_nonneg _ (by decide)
 have h2:(((t % ((2 ^ 64:Nat):Int)).toNat % 2 ^ 4:Nat):Int)=t % 16:=by
  rw [Int.natCast_emod,Int.toNat_of_nonneg h1]
  have:((2 ^ 64:Nat):Int)=18446744073709551616:=by decide
  have:((2 ^ 4:Nat):Int)=16:=by decide
  omega
 rw [h2,Int.toNat_of_nonneg (by omega)]
 exact cd (by omega)
set_option maxRecDepth 100000 in
theorem WX:∀ s:Fin 256,bG .and .u8 (s.1:Int) 31=((s.1 % 32:Nat):Int):=by decide
def I0 (Ds:List DO):Nat:=(Ds.filter fun d=>d.h.l).length
theorem I5 (Ds:List DO):I0 Ds<=Ds.length:=List.length_filter_le _ _
def DO.ov (d:DO):OV:=⟨d.h,d.P,d.R,d.ref⟩
theorem Alike.g0 {S S':ao} (h:Alike S S') (hg:∀ e∈S.E,e.gen=0):∀ e∈S'.E,e.gen=0:=fun e he=>by
 obtain ⟨i,hi⟩:=List.getElem?_of_mem he
 obtain ⟨e1,h1,_,h3⟩:=h.back hi
 rw [h3];exact hg _ (List.mem_of_getElem? h1)
structure lI (J:AH O) (sb nb lb pb mb:Nat) (M:ah) (S:ao) (w:List Int) (L:aP) (T:bn) (X:List Nat) (Ds:List DO) (N:Nat) (c:Int):Prop where
 a:bq J sb nb lb pb mb M S w L T X []
 ok:∀ d∈Ds,d.ok/\d.P.length<=15/\d.R.length<=15
 sm:∀ d∈Ds,d.h.l=false->d.at_+d.n<=T.top
 ap:∀ (i j:Nat) (a b:DO),i<j->Ds[i]? = some a->Ds[j]? = some b->a.h.l=b.h.l->if a.h.l then a.at_≠b.at_ else a.at_+a.n<=b.at_
 s0:∀ d∈Ds,d.h.l=false->∀ k,k<d.n->T.ws.getD (d.at_+k) 0=d.ws.getD k 0
 l0:∀ d∈Ds,d.h.l=true->L.ob d.at_=some d.ws
 free:S.free=[]
 len:S.E.length=I0 Ds
 room:S.room<=80
 bW:M.bW c (2+Ds.length)
 small:T.small=8
 ws:T.ws.length=8*N
 top:T.top=dT (vm Ds) Ds.length
 F0:T.top<=8*Ds.length
 cO:T.cO=[.i .i64 0,.i .i64 0,.b false]
 ep:L.ep=0
 only:∀ (j:Nat),L.ob j≠none->∃ d∈Ds,d.h.l=true/\d.at_=j
 gen:∀ e∈S.E,e.gen=0
theorem lI.new {J:AH O} {sb nb lb pb mb:Nat} {M:ah} {X:List Nat} {N:Nat} (h:bq J sb nb lb pb mb M ⟨1,5,0,[],[],0⟩ [] ⟨[],[],0,0,0,fun _=>none⟩ ⟨0,List.replicate (8*N) 0,0,[.i .i64 0,.i .i64 0,.b false],8⟩ X []) (hc:M.count=2) (hr:M.met.r=0) (hw:M.met.w=0):lI J sb nb lb pb mb M ⟨1,5,0,[],[],0⟩ [] ⟨[],[],0,0,0,fun _=>none⟩ ⟨0,List.replicate (8*N) 0,0,[.i .i64 0,.i .i64 0,.b false],8⟩ X [] N 0:=
 ⟨h,by simp,by simp,by simp,by simp,by simp,rfl,rfl,by decide,⟨by rw [hr,hw];decide,by rw [hc];decide⟩,rfl,List.length_replicate,rfl,Nat.zero_le _,rfl,rfl,fun j h=>absurd rfl h,by simp⟩
theorem lI.bF {J J':AH O} {sb nb lb pb mb:Nat} {M:ah} {S:ao} {w:List Int} {L:aP} {T:bn} {X Z K:List Nat} {Ds:List DO} {N:Nat} {c:Int} (m:lI J sb nb lb pb mb M S w L T X Ds N c) (hc:ei K J J') (hl:∀ b∈K,b∈X ∨ J.next<=b) (hZ:∀ b∈Z,b∈X ∨ (J.next<=b/\b<J'.next)):lI J' sb nb lb pb mb M S w L T Z Ds N c:={m with a:=m.a.bF hc hl hZ}
theorem M9 {Ds:List DO} {d:DO} {i:Nat} (h:i<Ds.length):vm (Ds++[d]) i=vm Ds i:=by
 unfold vm;rw [List.getElem?_append_left h]
theorem yC (Ds:List DO) (d:DO):dT (vm (Ds++[d])) (Ds++[d]).length=dT (vm Ds) Ds.length+if d.h.l then 0 else d.n:=by
 rw [List.length_append]
 show dT _ Ds.length+vm (Ds++[d]) Ds.length=_
 rw [gP (g:=vm Ds) fun j hj=>M9 hj]
 congr 1
 unfold vm
 rw [List.getElem?_append_right (Nat.le_refl _),Nat.sub_self]
 rfl
theorem yD (Ds:List DO) (d:DO):I0 (Ds++[d])=I0 Ds+if d.h.l then 1 else 0:=by
 unfold I0
 rw [List.filter_append,List.length_append]
 cases h:d.h.l<;>simp [h]
def cQ (p r s:Nat) (at_:Nat):DO:=⟨kg p r s 8,List.replicate p 0,List.replicate r 0,at_⟩
theorem Ej (p r s a:Nat):(cQ p r s a).n=1+p+r:=by simp [cQ,DO.n]
theorem Az (p r s a:Nat):(cQ p r s a).ws=((kg p r s 8).word:Int)::List.replicate (p+r) 0:=by
 simp [cQ,DO.ws]
theorem mC {p r s a:Nat}:(cQ p r s a).h.l=decide (8<1+p+r):=by
 show decide (((1+p+r:Nat):Int) > 8)=_
 exact decide_eq_decide.2 (by omega)
theorem AA {n k:Nat}:(List.replicate n (0:Int)).getD k 0=0:=by
 rw [List.getD_eq_getElem?_getD,List.getElem?_replicate];split<;>rfl
section
variable {J:AH O} {sb nb lb pb mb:Nat} {M:ah} {S:ao} {w:List Int} {L:aP} {T:bn} {X:List Nat} {Ds:List DO} {N:Nat} {c:Int} (m:lI J sb nb lb pb mb M S w L T X Ds N c)
include m
theorem lI.has {d:DO} (hd:d∈Ds):d.ob.has T L d.h:=by
 obtain ⟨ok,_,_⟩:=m.ok d hd
 refine ⟨?_,by show d.n=_;rw [ok.p,ok.r];rfl,?_,ok.h⟩
 ·unfold Ob.is
  show if d.h.l then _ else _
  cases hl:d.h.l with
  |true=>rw [if_pos rfl];exact ⟨d.ws,m.l0 d hd hl,d.Na⟩
  |false=>simp only [Bool.false_eq_true,if_false];exact m.sm d hd hl
 ·unfold Ht
  show (if d.h.l then ((L.ob d.at_).getD []).getD 0 0 else T.ws.getD (d.at_+0) 0)=_
  cases hl:d.h.l with
  |true=>rw [if_pos rfl,m.l0 d hd hl];rfl
  |false=>simp only [Bool.false_eq_true,if_false];exact m.s0 d hd hl 0 (by unfold DO.n;omega)
theorem I8 (hz:∀ j,T.top<=j->T.ws.getD j 0=0) (hk:Ds.length<N) (hN:N<=20) (hc:c<=10000000) {p r s:Nat} (hp:p<=15) (hr:r<=15) (hs:s<32):
  Ok (Nb [.p (some (.n sb,0)),.agg [.i .i64 (p:Int),.i .i64 (r:Int)],.i .i64 (s:Int)] J) fun q=>∃ a,q.1=.aB [.i .u64 (cQ p r s a).ref,.i .i64 0]/\(cQ p r s a).ref=(if 8<1+p+r then 2*((I0 Ds:Int)+1) else 2*(T.top:Int)+1)/\∃ M' S' w' L' T',lI q.2 sb nb lb pb mb M' S' w' L' T' X (Ds++[cQ p r s a]) N (c+30)/\(∀ j,T'.top<=j->T'.ws.getD j 0=0)/\aw X J q.2:=by
 have hf:M.cT 2000:=m.bW.cT m.a.l.p.mi.ok (by omega)
 have hl:=m.len
 have hlg:=I5 Ds
 have RA:=m.F0
 have hws:=m.ws
 have okn:∀ a,(cQ p r s a).ok/\(cQ p r s a).P.length<=15/\(cQ p r s a).R.length<=15:=fun a=>⟨⟨uJ (by omega) (by omega) hs,by simp [cQ,kg],by simp [cQ,kg]⟩,by simp [cQ];omega,by simp [cQ];omega⟩
 by_cases UJ:1+p+r<=8
 ·have lf:∀ a,(cQ p r s a).h.l=false:=fun a=>by rw [mC];exact decide_eq_false (by omega)
  refine (CJ m.a (hf.less (by decide)) (by omega) (by omega) hs (by rw [m.small];omega) (by omega) (by omega)).mono fun q ⟨g1,M',g2,g3,g4⟩=>?_
  rw [m.small] at g2
  have hT:=g2.top
  simp only [List.length_set] at hT
  have nn:=Ej p r s T.top
  have rf:(cQ p r s T.top).ref=m8 T.top:=by unfold DO.ref DO.to;rw [lf];rfl
  refine ⟨T.top,by rw [g1,rf],by rw [rf,if_neg (by omega)];unfold m8;omega,M',S,w,L,_,⟨g2,fun d hd=>?_,fun d hd pl=>?_,fun i j a b pj hi hj F1=>?_,fun d hd pl k hk=>?_,fun d hd pl=>?_,m.free,by rw [yD,lf];exact hl,m.room,(g3.bW m.bW).le (by omega) (by simp;omega),rfl,by simpa using hws,?_,by simp;omega,m.cO,m.ep,fun j hj=>by
   obtain ⟨d,h1,h2⟩:=m.only j hj
   exact ⟨d,List.mem_append_left _ h1,h2⟩,m.gen⟩,fun j hj=>?_,g4⟩
  ·rcases List.mem_append.1 hd with hd |hd
   ·exact m.ok d hd
   ·simp at hd;subst hd;exact okn _
  ·simp only
   rcases List.mem_append.1 hd with hd |hd
   ·have:=m.sm d hd pl;omega
   ·simp at hd;subst hd;rw [nn];exact Nat.le_refl _
  ·by_cases I9:j<Ds.length
   ·rw [List.getElem?_append_left I9] at hj
    rw [List.getElem?_append_left (by omega)] at hi
    exact m.ap i j a b pj hi hj F1
   ·have Ho:=(List.getElem?_eq_some_iff.1 hj).1
    simp at Ho
    have:j=Ds.length:=by omega
    subst this
    rw [List.getElem?_append_left pj] at hi
    simp at hj
    subst hj
    rw [lf] at F1
    rw [F1]
    simp only [Bool.false_eq_true,if_false]
    exact m.sm a (List.mem_of_getElem? hi) F1
  ·simp only
   rcases List.mem_append.1 hd with hd |hd
   ·have:=m.sm d hd pl
    rw [getD_set_ne (by omega)]
    exact m.s0 d hd pl k hk
   ·simp at hd;subst hd
    rw [Az]
    show (T.ws.set T.top _).getD (T.top+k) 0=_
    cases k with
    |zero=>rw [Nat.add_zero,cf (by omega)];rfl
    |succ k=>rw [getD_set_ne (by omega),hz _ (by omega),List.getD_cons_succ,AA]
  ·rcases List.mem_append.1 hd with hd |hd
   ·exact m.l0 d hd pl
   ·simp at hd;subst hd;rw [lf] at pl;cases pl
  ·simp only;rw [yC,lf,nn,<-m.top];rfl
  ·simp only at hj ⊢
   rw [getD_set_ne (by omega),hz _ (by omega)]
 ·have lt:∀ a,(cQ p r s a).h.l=true:=fun a=>by rw [mC];exact decide_eq_true (by omega)
  have je:M.count<262144:=by have:=m.bW.2;omega
  have aqW:S.more<=80:=by have:=m.room;unfold ao.more;split<;>omega
  refine (CK m.a hf (by omega) (by omega) hs (by rw [m.small];omega) je (by omega)).mono fun q ⟨g1,g0,M',S',w',L',g2,ge,g3,g4,g5,g6⟩=>?_
  rw [m.small] at g3
  obtain ⟨q1,q2,q3,q4⟩:=F2 m.free m.room (by omega) g4
  have t1:S.dq.1=I0 Ds:=by unfold ao.dq;rw [m.free];exact hl
  have g0':∀ d∈Ds,d.h.l=true->d.at_≠S.dq.1:=fun d hd pl e=>by
   have:=m.l0 d hd pl
   rw [e,g0] at this;cases this
  have rf:(cQ p r s S.dq.1).ref=nD S.dq.1:=by unfold DO.ref DO.to;rw [lt];rfl
  refine ⟨S.dq.1,by rw [g1,rf],by rw [rf,if_pos (by omega),t1];unfold nD;omega,M',S',w',L',T,⟨g2,fun d hd=>?_,fun d hd pl=>?_,fun i j a b pj hi hj F1=>?_,fun d hd pl k hk=>?_,fun d hd pl=>?_,q2,by rw [yD,lt,q3,hl];rfl,q4,(g5.bW m.bW).le (by omega) (by simp;omega),m.small,m.ws,?_,by simp;omega,m.cO,ge.1.trans m.ep,fun j hj=>by
   rw [g3] at hj
   simp only at hj
   by_cases c:j=S.dq.1
   ·exact ⟨cQ p r s S.dq.1,by simp,lt _,c.symm⟩
   ·rw [if_neg c] at hj
    obtain ⟨d,h1,h2⟩:=m.only j hj
    exact ⟨d,List.mem_append_left _ h1,h2⟩,g4.g0 fun e he=>by
   have e0:S.dq.2.E=S.E++[PE.fresh S.words]:=by unfold ao.dq;rw [m.free]
   rw [e0] at he
   rcases List.mem_append.1 he with he |he
   ·exact m.gen e he
   ·simp at he;subst he;rfl⟩,hz,g6⟩
  ·rcases List.mem_append.1 hd with hd |hd
   ·exact m.ok d hd
   ·simp at hd;subst hd;exact okn _
  ·rcases List.mem_append.1 hd with hd |hd
   ·exact m.sm d hd pl
   ·simp at hd;subst hd;rw [lt] at pl;cases pl
  ·by_cases I9:j<Ds.length
   ·rw [List.getElem?_append_left I9] at hj
    rw [List.getElem?_append_left (by omega)] at hi
    exact m.ap i j a b pj hi hj F1
   ·have Ho:=(List.getElem?_eq_some_iff.1 hj).1
    simp at Ho
    have:j=Ds.length:=by omega
    subst this
    rw [List.getElem?_append_left pj] at hi
    simp at hj
    subst hj
    rw [lt] at F1
    rw [F1,if_pos rfl]
    exact g0' a (List.mem_of_getElem? hi) F1
  ·rcases List.mem_append.1 hd with hd |hd
   ·exact m.s0 d hd pl k hk
   ·simp at hd;subst hd;rw [lt] at pl;cases pl
  ·rw [g3]
   simp only
   rcases List.mem_append.1 hd with hd |hd
   ·rw [if_neg (g0' d hd pl)];exact m.l0 d hd pl
   ·simp at hd;subst hd
    rw [Az]
    show (if S.dq.1=S.dq.1 then _ else _)=_
    rw [if_pos rfl,show 1+p+r=(p+r)+1 by omega,List.replicate_succ]
    rfl
  ·rw [yC,lt,m.top];rfl
def DO.fq (d:DO) (k:Nat) (x:Int):DO:={d with R:=d.R.set k x}
omit m in
theorem DO.I' (d:DO) (k:Nat) (x:Int):(d.fq k x).n=d.n:=by simp [DO.fq,DO.n]
omit m in
theorem DO.Ek (d:DO) (k:Nat) (x:Int):(d.fq k x).ws=d.ws.set (1+d.P.length+k) x:=by
 unfold DO.ws DO.fq
 simp only
 rw [show 1+d.P.length+k=(d.P.length+k)+1 by omega,List.set_cons_succ,List.set_append_right _ _ (by omega),show d.P.length+k - d.P.length=k by omega]
theorem lI.agm {J':AH O} {M':ah} {i:Nat} {d:DO} (hd:Ds[i]? = some d) {k:Nat} (hk:k<d.R.length) (x:Int) (h:bq J' sb nb lb pb mb M' S w (fO L d.ob (1+d.P.length+k) x) (cC T d.ob (1+d.P.length+k) x) X []) {c':Int} (hf:M'.bW c' (2+Ds.length)):
  lI J' sb nb lb pb mb M' S w (fO L d.ob (1+d.P.length+k) x) (cC T d.ob (1+d.P.length+k) x) X (Ds.set i (d.fq k x)) N c':=by
 have hi:=(List.getElem?_eq_some_iff.1 hd).1
 have hm:=List.mem_of_getElem? hd
 have tt:(cC T d.ob (1+d.P.length+k) x).top=T.top:=by unfold cC;split<;>rfl
 have ts:(cC T d.ob (1+d.P.length+k) x).small=T.small:=by unfold cC;split<;>rfl
 have to:(cC T d.ob (1+d.P.length+k) x).cO=T.cO:=by unfold cC;split<;>rfl
 have tw:(cC T d.ob (1+d.P.length+k) x).ws.length=T.ws.length:=by unfold cC;split<;>simp
 have le:(fO L d.ob (1+d.P.length+k) x).ep=L.ep:=by unfold fO;split<;>rfl
 have get:∀ (j:Nat) (b:DO),(Ds.set i (d.fq k x))[j]? = some b->∃ b0,Ds[j]? = some b0/\b.h=b0.h/\b.at_=b0.at_/\b.n=b0.n/\(j=i->b0=d/\b=d.fq k x)/\(j≠i->b=b0):=fun j b hb=>by
  rw [List.getElem?_set] at hb
  by_cases c:i=j
  ·subst c
   rw [if_pos rfl,if_pos hi] at hb
   cases hb
   exact ⟨d,hd,rfl,rfl,d.I' k x,fun _=>⟨rfl,rfl⟩,fun h=>absurd rfl h⟩
  ·rw [if_neg c] at hb
   exact ⟨b,hb,rfl,rfl,rfl,fun h=>absurd h.symm c,fun _=>rfl⟩
 have apart:∀ (j:Nat) (b:DO),Ds[j]? = some b->j≠i->b.h.l=d.h.l->if b.h.l then b.at_≠d.at_ else b.at_+b.n<=d.at_ ∨ d.at_+d.n<=b.at_:=fun j b hb hj hl=>by
  by_cases cc:j<i
  ·have:=m.ap j i b d cc hb hd hl
   split at this
   ·next g=>rw [if_pos g];exact this
   ·next g=>rw [if_neg g];exact .inl this
  ·have:=m.ap i j d b (by omega) hd hb hl.symm
   rw [<-hl] at this
   split at this
   ·next g=>rw [if_pos g];exact fun q=>this q.symm
   ·next g=>rw [if_neg g];exact .inr this
 have mem:∀ b∈Ds.set i (d.fq k x),∃ j:Nat,(Ds.set i (d.fq k x))[j]? = some b:=fun b hb=>List.getElem?_of_mem hb
 have kn:1+d.P.length+k<d.n:=by unfold DO.n;omega
 refine ⟨h,fun b hb=>?_,fun b hb cy=>?_,fun u v a b huv hu hv F1=>?_,fun b hb cy q hq=>?_,fun b hb cy=>?_,m.free,?_,m.room,by rw [List.length_set];exact hf,ts.trans m.small,by rw [tw];exact m.ws,?_,by rw [tt,List.length_set];exact m.F0,to.trans m.cO,le.trans m.ep,fun j hj=>?_,m.gen⟩
 ·obtain ⟨j,hj⟩:=mem b hb
  obtain ⟨b0,h1,h2,h3,h4,h5,h6⟩:=get j b hj
  by_cases c:j=i
  ·obtain ⟨rfl,rfl⟩:=h5 c
   obtain ⟨q1,q2,q3⟩:=m.ok b0 hm
   exact ⟨⟨q1.h,q1.p,by rw [show (b0.fq k x).h=b0.h from rfl,q1.r];simp [DO.fq]⟩,q2,by simpa [DO.fq] using q3⟩
  ·rw [h6 c];exact m.ok b0 (List.mem_of_getElem? h1)
 ·obtain ⟨j,hj⟩:=mem b hb
  obtain ⟨b0,h1,h2,h3,h4,h5,h6⟩:=get j b hj
  rw [tt,h3,h4]
  exact m.sm b0 (List.mem_of_getElem? h1) (by rw [<-h2];exact cy)
 ·obtain ⟨a0,a1,a2,a3,a4,_⟩:=get u a hu
  obtain ⟨b0,b1,b2,b3,b4,_⟩:=get v b hv
  rw [a2,a3,a4,b3]
  exact m.ap u v a0 b0 huv a1 b1 (by rw [<-a2,<-b2];exact F1)
 ·obtain ⟨j,hj⟩:=mem b hb
  obtain ⟨b0,h1,h2,h3,h4,h5,h6⟩:=get j b hj
  have jN:b0.h.l=false:=by rw [<-h2];exact cy
  have cO:=m.s0 b0 (List.mem_of_getElem? h1) jN
  have st:=m.sm b0 (List.mem_of_getElem? h1) jN
  have tp:=m.a.top
  by_cases c:j=i
  ·obtain ⟨rfl,rfl⟩:=h5 c
   have e1:(cC T b0.ob (1+b0.P.length+k) x).ws=T.ws.set (b0.at_+(1+b0.P.length+k)) x:=by
    unfold cC
    show (if b0.h.l then T else _).ws=_
    rw [jN];rfl
   rw [e1,DO.Ek]
   show (T.ws.set _ x).getD (b0.at_+q) 0=_
   rw [DO.I'] at hq
   by_cases cq:q=1+b0.P.length+k
   ·subst cq
    rw [cf (by omega),cf (by rw [b0.Na];exact kn)]
   ·rw [getD_set_ne (by omega),getD_set_ne (fun e=>cq e.symm)]
    exact cO q hq
  ·rw [h6 c] at hq ⊢
   by_cases cl:d.h.l=true
   ·have e1:cC T d.ob (1+d.P.length+k) x=T:=by
     unfold cC
     show (if d.h.l then T else _)=_
     rw [cl];rfl
    rw [e1];exact cO q hq
   ·have cl:d.h.l=false:=by simpa using cl
    have e1:(cC T d.ob (1+d.P.length+k) x).ws=T.ws.set (d.at_+(1+d.P.length+k)) x:=by
     unfold cC
     show (if d.h.l then T else _).ws=_
     rw [cl];rfl
    have:=apart j b0 h1 c (by rw [jN,cl])
    rw [jN] at this
    simp only [Bool.false_eq_true,if_false] at this
    rw [e1,getD_set_ne (by omega)]
    exact cO q hq
 ·obtain ⟨j,hj⟩:=mem b hb
  obtain ⟨b0,h1,h2,h3,h4,h5,h6⟩:=get j b hj
  have jN:b0.h.l=true:=by rw [<-h2];exact cy
  have cO:=m.l0 b0 (List.mem_of_getElem? h1) jN
  by_cases c:j=i
  ·obtain ⟨rfl,rfl⟩:=h5 c
   unfold fO
   show (if b0.h.l then _ else L).ob b0.at_=_
   rw [jN,if_pos rfl]
   show (if b0.at_=b0.at_ then _ else _)=_
   rw [if_pos rfl]
   show some (((L.ob b0.at_).getD []).set _ x)=_
   rw [cO,DO.Ek];rfl
  ·rw [h6 c]
   unfold fO
   show (if d.h.l then _ else L).ob b0.at_=_
   by_cases cl:d.h.l=true
   ·rw [cl,if_pos rfl]
    have:=apart j b0 h1 c (by rw [jN,cl])
    rw [jN,if_pos rfl] at this
    show (if b0.at_=d.at_ then _ else _)=_
    rw [if_neg this];exact cO
   ·rw [if_neg cl];exact cO
 ·rw [m.len]
  unfold I0
  rw [List.set_eq_take_append_cons_drop,if_pos hi]
  conv=>lhs;rw [<-List.take_append_drop i Ds,List.drop_eq_getElem_cons hi]
  have hg:Ds[i]=d:=by rw [List.getElem?_eq_getElem hi] at hd;exact Option.some.inj hd
  rw [hg,List.filter_append,List.filter_append,List.length_append,List.length_append,List.filter_cons,List.filter_cons]
  have Cw:(d.fq k x).h.l=d.h.l:=rfl
  rw [Cw]
  split<;>simp
 ·rw [tt,m.top,List.length_set]
  refine (gP fun j hj=>?_).symm
  unfold vm
  cases hb:(Ds.set i (d.fq k x))[j]? with
  |none=>rw [List.getElem?_eq_none_iff,List.length_set] at hb;omega
  |some b=>
   obtain ⟨b0,h1,h2,h3,h4,h5,h6⟩:=get j b hb
   rw [h1]
   simp only
   rw [h2,h4]
 ·have hL:L.ob j≠none ∨ (j=d.at_/\d.h.l=true):=by
   unfold fO at hj
   cases hl:d.h.l with
   |false=>
    rw [if_neg (show ¬ d.ob.lg=true by show ¬ d.h.l=true;rw [hl];simp)] at hj
    exact .inl hj
   |true=>
    by_cases c:j=d.at_
    ·exact .inr ⟨c,rfl⟩
    ·left
     rw [if_pos (show d.ob.lg=true from hl)] at hj
     simp only [if_neg (show ¬ j=d.ob.at_ from c)] at hj
     exact hj
  have back:∀ b∈Ds,b.h.l=true->b.at_=j->∃ b'∈Ds.set i (d.fq k x),b'.h.l=true/\b'.at_=j:=fun b hb cy Qh=>by
   obtain ⟨u,hu⟩:=List.getElem?_of_mem hb
   by_cases c:u=i
   ·subst c
    rw [hd] at hu;cases hu
    exact ⟨d.fq k x,List.mem_of_getElem? (i:=u) (by rw [List.getElem?_set,if_pos rfl,if_pos hi]),cy,Qh⟩
   ·exact ⟨b,List.mem_of_getElem? (i:=u) (by rw [List.getElem?_set,if_neg (fun e=>c e.symm)];exact hu),cy,Qh⟩
  rcases hL with h |⟨h1,h2⟩
  ·obtain ⟨b,b1,b2,b3⟩:=m.only j h
   exact back b b1 b2 b3
  ·exact back d hm h2 h1.symm
end
end Go.Abs.Tryz
set_option maxHeartbeats 4000000
namespace Go.Abs.Tryz
open Go Go.Abs
variable {O:Type}
structure MZ where
 p:Int
 r:Int
 s:Nat
 w:Int
structure MZ.ok (z:MZ):Prop where
 p : -9223372036854775808<=z.p/\z.p<=9223372036854775807
 r : -9223372036854775808<=z.r/\z.r<=9223372036854775807
 s:z.s<256
def sk (J:AH O) (X:List Nat) (sa:SA) (zs:List MZ):Prop:=∀ i z,zs[i]? = some z->∃ b o,SA.ref sa=some (b,o)/\∀ J':AH O,aw X J J'->J'.ld b (o+i*4)=some (.i .i64 z.p)/\J'.ld b (o+i*4+1)=some (.i .i64 z.r)/\J'.ld b (o+i*4+2)=some (.i .u8 (z.s:Int))/\J'.ld b (o+i*4+3)=some (.i .u64 z.w)
theorem sk.of {J J':AH O} {X:List Nat} {sa:SA} {zs:List MZ} (h:sk J X sa zs) (k:aw X J J'):sk J' X sa zs:=fun i z hz=>by
 obtain ⟨b,o,h1,h2⟩:=h i z hz
 exact ⟨b,o,h1,fun nS k'=>h2 nS (k.trans k')⟩
def sO (N:Nat) (T:bn) (S:ao) (Ds:List DO):gi:=⟨8*N,(T.top:Int),(S.E.length:Int),Ds.map DO.ov⟩
def pW (J:AH O) (wb N:Nat) (T:bn) (S:ao) (Ds:List DO):Prop:=∃ a,J.aa wb=some (.cells true qas [.i .i64 8,.i .i64 (8*(N:Int)),.i .i64 (T.top:Int),.i .i64 (S.E.length:Int),.sl a Ds.length])/\ss a (Ds.map DO.ov)
theorem Nc {J:AH O} {sb nb lb pb mb:Nat} {M:ah} {S:ao} {w:List Int} {L:aP} {T:bn} {X:List Nat} {Ds:List DO} {N:Nat} {c:Int} (m:lI J sb nb lb pb mb M S w L T X Ds N c) (hz:∀ j,T.top<=j->T.ws.getD j 0=0) {d:DO} (hd:d∈Ds) {k:Nat} (hk:k<d.n) (x:Int):(cC T d.ob k x).top=T.top/\∀ j,(cC T d.ob k x).top<=j->(cC T d.ob k x).ws.getD j 0=0:=by
 unfold cC
 show (if d.h.l then T else _).top=_/\∀ j,(if d.h.l then T else _).top<=j->(if d.h.l then T else _).ws.getD j 0=0
 cases hl:d.h.l with
 |true=>exact ⟨rfl,hz⟩
 |false=>
  have:=m.sm d hd hl
  refine ⟨rfl,fun j hj=>?_⟩
  show (T.ws.set (d.at_+k) x).getD j 0=0
  have hj:T.top<=j:=hj
  rw [getD_set_ne (by omega)]
  exact hz j hj
section
variable {J:AH O} {sb nb lb pb mb zF wb:Nat} {M:ah} {S:ao} {w:List Int} {L:aP} {T:bn} {X:List Nat} {Ds:List DO} {N:Nat} {c:Int}
theorem Je (m:lI J sb nb lb pb mb M S w L T (zF::wb::X) Ds N c) (hz:∀ j,T.top<=j->T.ws.getD j 0=0) (hc:c<=9000000) (hN:Ds.length<=20) {i n:Nat} {d:DO} (hd:Ds[i]? = some d) (UK:i<n) {k:Nat} (hk:k<d.R.length) {p:Int} (hsh:J.aa zF=some (.cells true WY [.i .i64 p,.i .i64 (d.R.length:Int)])) (Jf:pW J wb N T S Ds) {sa:SA} {zs:List MZ} (hA:sk J X sa zs) (hn:zs.length=n) (hx:wb∉X/\zF≠wb) {fU dZ:List AV × AH O} (e22:fU.2.next=zF) (xe:dZ.2.next=wb):
  Ok (WZ fU (i:Int) (sa,n) Qi (some (.n sb,0)) d.ref dZ R2 ([.i .i64 (k:Int)],J)) fun q=>∃ J',q=.inl ([.i .i64 ((k+1:Nat):Int)],J')/\∃ M' L' T' x,lI J' sb nb lb pb mb M' S w L' T' (zF::wb::X) (Ds.set i (d.fq k x)) N (c+6)/\(∀ j,T'.top<=j->T'.ws.getD j 0=0)/\pW J' wb N T' S (Ds.set i (d.fq k x))/\aw (zF::X) J J':=by
 have hm:=List.mem_of_getElem? hd
 have xS:=(List.getElem?_eq_some_iff.1 hd).1
 obtain ⟨ok,okP,okR⟩:=m.ok d hm
 obtain ⟨a,hwb,Rz⟩:=Jf
 obtain ⟨z,Uu⟩:∃ z,zs[i]? = some z:=⟨_,List.getElem?_eq_getElem (by omega)⟩
 obtain ⟨bb,o,R3,hl⟩:=hA i z Uu
 have l0:=(hl J (aw.refl X J)).2.2.2
 have hf:M.cT 2000:=m.bW.cT m.a.l.p.mi.ok (by omega)
 have Hq:decide ((i:Int)<(n:Int))=true:=decide_eq_true (by omega)
 (unfold WZ;refine rl e22 xe hsh R3 (cj l0 Hq) ?_)
 refine Ok.step (CL m.a hf (m.has hm) (k:Int) (IntKind.u64.wrap (z.w+k))) fun q ⟨g1,M',g2,g3,_,g4⟩=>?_
 obtain ⟨q,J1⟩:=q
 have hkr:(0:Int)<=k/\(k:Int)<d.h.r:=by rw [ok.r];omega
 simp only [if_pos hkr,Int.toNat_natCast] at g1 g2 g4
 subst g1
 have z0:((0:Int) != 0)=false:=rfl
 have kX:aw X J J1:=g4.tail.tail
 have l1:=(hl J1 kX).2.2.2
 have W4:=(g4.aa wb (by simp)).trans hwb
 refine BA z0 W4 l1 xe ?_
 have hoi:(Ds.map DO.ov)[i]? = some d.ov:=by rw [List.getElem?_map,hd];rfl
 have sr:=CM (J:=J1) (s:=sO N T S Ds) (a:=a) Rz (by simp [sO];omega) hoi (by show d.R.length<=1000;omega) (k:=k) hk (IntKind.u64.wrap (z.w+k))
 simp only [sO,gi.cells,List.length_map] at sr
 refine Ok.step sr fun q ⟨⟨a',k1,k2⟩,k3⟩=>?_
 obtain ⟨q,J2⟩:=q
 simp only at k1 k2 k3
 subst k1
 have R4:(Ds.map DO.ov).getD i ⟨⟨0,0,0,0,false⟩,[],[],0⟩=d.ov:=by rw [List.getD_eq_getElem?_getD,hoi];rfl
 have F3:((sO N T S Ds).fq i k (IntKind.u64.wrap (z.w+k))).l=(Ds.set i (d.fq k (IntKind.u64.wrap (z.w+k)))).map DO.ov:=by
  unfold gi.fq sO
  simp only
  rw [R4,List.map_set]
  rfl
 have W5:wb<J1.next:=g2.lt wb (by simp)
 have agp:=(k3.aa wb W5).trans W4
 have Qj:({size:=8*(N:Int),top:=(T.top:Int),eu:=(S.E.length:Int),l:=Ds.map DO.ov}:gi).fq i k (IntKind.u64.wrap (z.w+k))=⟨8*N,T.top,S.E.length,(Ds.set i (d.fq k (IntKind.u64.wrap (z.w+k)))).map DO.ov⟩:=by
  have:∀ (s:gi) (i k:Nat) (x:Int),s.fq i k x=⟨s.size,s.top,s.eu,(s.fq i k x).l⟩:=fun _ _ _ _=>rfl
  rw [this]
  congr 1
 rw [Qj] at k2
 simp only [Qj,List.length_map,List.length_set]
 refine gh agp xe ?_
 rw [ok.p] at g2
 have bp:=g2.lt
 have kn:1+d.P.length+k<d.n:=by unfold DO.n;omega
 obtain ⟨tt,Wt⟩:=Nc m hz hm kn (IntKind.u64.wrap (z.w+k))
 have mk:=m.agm hd hk (IntKind.u64.wrap (z.w+k)) g2 (c':=c+6) ((g3.bW m.bW).le (c':=2+(Ds.length:Int)) (by omega) (by omega))
 have ch:ei [wb] J1 (J2.put wb (.cells true qas [.i .i64 8,.i .i64 (8*(N:Int)),.i .i64 (T.top:Int),.i .i64 (S.E.length:Int),.sl a' Ds.length])):=⟨k3.next,fun b hb hm=>(aA (by simpa using hm)).trans (k3.aa b hb)⟩
 have mk2:=mk.bF ch (fun b hb=>.inl (by simp at hb;simp [hb])) (fun b hb=>.inl hb)
 refine U.2 ⟨_,rfl,M',_,_,_,mk2,Wt,⟨a',?_,k2⟩,⟨Nat.le_trans g4.next k3.next,fun b hb=>?_⟩⟩
 ·rw [tt,List.length_set];exact aH
 ·have db:b≠wb:=by
   rintro rfl
   rcases List.mem_cons.1 hb with h |h
   ·exact hx.2 h.symm
   ·exact hx.1 h
  have dI:b∈zF::wb::X:=by
   rcases List.mem_cons.1 hb with h |h
   ·simp [h]
   ·simp [h]
  rw [aA db,k3.aa b (bp b dI),g4.aa b dI]
end
end Go.Abs.Tryz
namespace Go.Abs.Tryz
open Go Go.Abs
variable {O:Type}
theorem Jg {Ds:List DO} {N p r st a:Nat} {T T2:bn} {S S2:ao} (h1:T.top=dT (vm Ds) Ds.length) (h2:S.E.length=I0 Ds) (h3:T2.top=dT (vm (Ds++[cQ p r st a])) (Ds++[cQ p r st a]).length) (h4:S2.E.length=I0 (Ds++[cQ p r st a])) (hw:(cQ p r st a).ref=gi.word ⟨8*(N:Int),(T.top:Int),(S.E.length:Int),Ds.map DO.ov⟩ p r):
  gi.made ⟨8*(N:Int),(T.top:Int),(S.E.length:Int),Ds.map DO.ov⟩ p r st=⟨8*(N:Int),(T2.top:Int),(S2.E.length:Int),(Ds++[cQ p r st a]).map DO.ov⟩:=by
 rw [yC,<-h1,mC,Ej] at h3
 rw [yD,<-h2,mC] at h4
 have e0:(cQ p r st a).ov=pX p r st (decide (8<1+p+r)) (cQ p r st a).ref:=by
  unfold DO.ov pX
  congr 1
  show kg p r st 8=_
  have:=mC (p:=p) (r:=r) (s:=st) (a:=a)
  unfold kg
  congr 1
 unfold gi.made
 by_cases c:8<1+p+r
 ·rw [if_pos c]
  simp only [decide_eq_true c,if_true] at h3 h4
  rw [h3,h4,List.map_append,List.map_singleton,e0,<-hw,decide_eq_true c]
  simp
 ·rw [if_neg c]
  simp only [decide_eq_false c,Bool.false_eq_true,if_false] at h3 h4
  rw [h3,h4,List.map_append,List.map_singleton,e0,<-hw,decide_eq_false c]
  simp
section
variable {J:AH O} {sb nb lb pb mb zF wb:Nat} {M:ah} {S:ao} {w:List Int} {L:aP} {T:bn} {X:List Nat} {Ds:List DO} {N:Nat} {c:Int}
theorem Nd (m:lI J sb nb lb pb mb M S w L T (zF::wb::X) Ds N c) (hz:∀ j,T.top<=j->T.ws.getD j 0=0) (hc:c<=8000000) (hN:Ds.length<=20) {i n:Nat} {d:DO} (hd:Ds[i]? = some d) (UK:i<n) {p:Int} (hsh:J.aa zF=some (.cells true WY [.i .i64 p,.i .i64 (d.R.length:Int)])) (Jf:pW J wb N T S Ds) {sa:SA} {zs:List MZ} (hA:sk J X sa zs) (hn:zs.length=n) (hx:wb∉X/\zF≠wb) {fU dZ:List AV × AH O} (e22:fU.2.next=zF) (xe:dZ.2.next=wb):
  Ok (bC (WZ fU (i:Int) (sa,n) Qi (some (.n sb,0)) d.ref dZ R2) ([.i .i64 0],J)) fun q=>∃ J',q=.inl ([],J')/\∃ M' L' T' d',lI J' sb nb lb pb mb M' S w L' T' (zF::wb::X) (Ds.set i d') N (c+90)/\(∀ j,T'.top<=j->T'.ws.getD j 0=0)/\pW J' wb N T' S (Ds.set i d')/\aw (zF::X) J J'/\d'.P=d.P:=by
 have xS:=(List.getElem?_eq_some_iff.1 hd).1
 obtain ⟨ok,okP,okR⟩:=m.ok d (List.mem_of_getElem? hd)
 have F3:Ds.set i d=Ds:=by
  apply List.ext_getElem?
  intro j
  rw [List.getElem?_set]
  by_cases c:i=j
  ·subst c;rw [if_pos rfl,if_pos xS,hd]
  ·rw [if_neg c]
 refine Ok.count d.R.length (fun k s=>∃ J' M' L' T' d',s=([.i .i64 (k:Int)],J')/\lI J' sb nb lb pb mb M' S w L' T' (zF::wb::X) (Ds.set i d') N (c+6*k)/\d'.R.length=d.R.length/\d'.ref=d.ref/\(∀ j,T'.top<=j->T'.ws.getD j 0=0)/\pW J' wb N T' S (Ds.set i d')/\aw (zF::X) J J'/\d'.P=d.P) ?_ ?_ ⟨J,M,L,T,d,rfl,?_,rfl,rfl,hz,?_,aw.refl _ _,rfl⟩
 ·rintro k _ hk ⟨J1,M1,L1,T1,d1,rfl,m1,hr,hf,MQ,Wp,kp,eP⟩
  have Nf:=(kp.aa zF (by simp)).trans hsh
  rw [<-hr] at Nf hk
  rw [<-hf]
  refine (Je m1 MQ (by omega) (by simpa using hN) (i:=i) (n:=n) (d:=d1) (by rw [List.getElem?_set];simp [xS]) UK hk Nf Wp (hA.of kp.tail) hn hx e22 xe).mono ?_
  rintro _ ⟨J2,rfl,M2,L2,T2,x,m2,hz2,Wq,W8⟩
  rw [List.set_set] at m2 Wq
  have e:c+6*(k:Int)+6=c+6*((k+1:Nat):Int):=by omega
  exact ⟨J2,M2,L2,T2,d1.fq k x,rfl,e▸m2,by simpa [DO.fq] using hr,rfl,hz2,Wq,kp.trans W8,eP⟩
 ·rintro _ ⟨J1,M1,L1,T1,d1,rfl,m1,hr,hf,MQ,Wp,kp,eP⟩
  have Nf:=(kp.aa zF (by simp)).trans hsh
  (unfold WZ;refine gh e22 Nf ?_)
  exact U.2 ⟨J1,rfl,M1,L1,T1,d1,{m1 with bW:=m1.bW.le (by omega) (Int.le_refl _)},MQ,Wp,kp,eP⟩
 ·rw [F3]
  have e:c+6*((0:Nat):Int)=c:=by omega
  rw [e];exact m
 ·rw [F3];exact Jf
theorem F4 (m:lI J sb nb lb pb mb M S w L T (wb::X) Ds N c) (hz:∀ j,T.top<=j->T.ws.getD j 0=0) (hc:c<=7000000) (hN:N<=20) (hk:Ds.length<N) (Jf:pW J wb N T S Ds) {sa:SA} {zs:List MZ} (hA:sk J X sa zs) (hn:zs.length=N) (ho:∀ z∈zs,z.ok) (hx:wb∉X) {dZ:List AV × AH O} (xe:dZ.2.next=wb):
  Ok (W9 (sa,N) Nb (some (.n sb,0)) dZ Xa Qi R2 ([.i .i64 (Ds.length:Int)],J)) fun q=>∃ J',q=.inl ([.i .i64 ((Ds.length+1:Nat):Int)],J')/\∃ M' S' w' L' T' d',lI J' sb nb lb pb mb M' S' w' L' T' (wb::X) (Ds++[d']) N (c+120)/\(∀ j,T'.top<=j->T'.ws.getD j 0=0)/\pW J' wb N T' S' (Ds++[d'])/\aw X J J'/\∀ w∈d'.P,w=0:=by
 obtain ⟨z,Uu⟩:∃ z,zs[Ds.length]? = some z:=⟨_,List.getElem?_eq_getElem (by omega)⟩
 have zo:=ho z (List.mem_of_getElem? Uu)
 obtain ⟨bb,o,R3,hl⟩:=hA _ z Uu
 have bp:=m.a.lt
 have l0:=fun (J':AH O) (k:aw X J J')=>hl J' k
 have K1:aw X J (J.az 1):=aw.az X J 1
 have K2:∀ x:eY O,aw X J ((J.az 1).put J.next x):=fun x=>⟨by simp,fun b hb=>by
  have:=bp b (by simp [hb])
  exact hU⟩
 have q0:=(hl _ K1).1
 have q1:=(hl _ K1).2.1
 have q2:=fun x:eY O=>(hl _ (K2 x)).2.2.1
 obtain ⟨p,hp⟩:∃ p:Nat,p=(z.p % 16).toNat:=⟨_,rfl⟩
 obtain ⟨r,hr⟩:∃ r:Nat,r=(z.r % 16).toNat:=⟨_,rfl⟩
 have ap:bG .and .i64 z.p 15=(p:Int):=by rw [hp];exact Qg zo.p
 have ar:bG .and .i64 z.r 15=(r:Int):=by rw [hr];exact Qg zo.r
 have MI:bG .and .u8 (z.s:Int) 31=((z.s % 32:Nat):Int):=WX ⟨z.s,zo.s⟩
 have as2:IntKind.i64.wrap (((z.s % 32:Nat)):Int)=((z.s % 32:Nat):Int):=cd (by omega)
 generalize hs:z.s % 32=st at MI as2
 have jD:st<32:=by omega
 have Hq:decide ((Ds.length:Int)<(N:Int))=true:=decide_eq_true (by omega)
 (unfold W9;refine rl xe Hq R3 q0 (cj q1 (cj q2 (cj ap (cj ar (cj MI as2))))) ?_)
 generalize hJ:AH.put _ J.next _=J1
 have n1:J1.next=J.next+1:=by rw [<-hJ];rfl
 have bs1:J1.aa J.next=some (.cells true WY [.i .i64 (p:Int),.i .i64 (r:Int)]):=by rw [<-hJ];exact aH
 have E1:Ext J J1:=⟨by omega,fun b hb=>by rw [<-hJ];exact hU⟩
 clear hJ
 have m1:lI J1 sb nb lb pb mb M S w L T (J.next::wb::X) Ds N c:=m.bF (K:=[]) ⟨E1.next,fun b hb _=>E1.aa b hb⟩ (by simp) (fun b hb=>by
  rcases List.mem_cons.1 hb with h |h
  ·exact .inr ⟨by omega,by omega⟩
  ·exact .inl h)
 refine Ok.step (I8 m1 hz hk hN (by omega) (p:=p) (r:=r) (s:=st) (by omega) (by omega) jD) fun q ⟨a,g1,g2,M2,S2,w2,L2,T2,m2,hz2,k2⟩=>?_
 obtain ⟨q,J2⟩:=q
 simp only at g1 m2 k2
 subst g1
 obtain ⟨aD,hwb,Rz⟩:=Jf
 have UL:=(k2.aa wb (by simp)).trans ((E1.aa wb (bp wb (by simp))).trans hwb)
 have bs2:=(k2.aa J.next (by simp)).trans bs1
 have KX2:aw X J J2:=⟨Nat.le_trans E1.next k2.next,fun b hb=>(k2.aa b (by simp [hb])).trans (E1.aa b (bp b (by simp [hb])))⟩
 have q3:=(hl J2 KX2).2.2.1
 have W5:wb<J2.next:=m2.a.lt wb (by simp)
 have f0:(false == false)=true:=rfl
 have z0:((0:Int) == 0)=true:=rfl
 refine rl UL bs2 q3 MI (cj as2 xe) ?_
 have htb:=m.F0
 have hlen:=m.len
 have hlg:=I5 Ds
 have mk:=Jh (J:=J2) (a:=aD) (s:=sO N T S Ds) Rz (by simp [sO];omega) (p:=p) (r:=r) (st:=st) (by omega) (by omega) jD (by simp only [sO];omega) (by simp only [sO];omega) (by simp only [sO];omega) (fun h=>by simp only [sO];omega)
 simp only [sO,gi.cells,List.length_map] at mk
 refine Ok.step mk fun q ⟨⟨a',j1,j2⟩,j3⟩=>?_
 obtain ⟨q,J3⟩:=q
 simp only at j1 j2 j3
 subst j1
 have ew:(cQ p r st a).ref=gi.word ⟨8*(N:Int),(T.top:Int),(S.E.length:Int),Ds.map DO.ov⟩ p r:=by
  rw [g2];unfold gi.word;simp only;rw [hlen]
 have hw3:=(j3.aa wb W5).trans UL
 rw [<-ew]
 have rr:((cQ p r st a).ref == (cQ p r st a).ref)=true:=by simp
 rw [Jg m1.top m1.len m2.top m2.len ew] at j2 ⊢
 simp only [List.length_map]
 simp (maxSteps:=2000000) -implicitDefEqProofs (disch:=(first |omega |rfl |assumption |(simp only [aO];first |omega |assumption))) only [hw3,xe,f0,z0,rr,bne,Bool.not_true,Nat.reduceAdd,Nat.reduceMul,Nat.reduceLT,Int.reduceToNat,Int.reduceAdd,Int.reduceSub,Int.reduceMul,eA,gM]
 generalize hJ:AH.put _ wb _=J4
 have n4:J4.next=J3.next:=by rw [<-hJ];rfl
 have R5:J4.aa wb=some (.cells true qas [.i .i64 8,.i .i64 (8*(N:Int)),.i .i64 (T2.top:Int),.i .i64 (S2.E.length:Int),.sl a' (Ds++[cQ p r st a]).length]):=by rw [<-hJ];exact aH
 have ch:ei [wb] J2 J4:=⟨by rw [n4];exact j3.next,fun b hb hm=>by rw [<-hJ,aA (by simpa using hm)];exact j3.aa b hb⟩
 clear hJ
 have m4:=m2.bF ch (fun b hb=>.inl (by simp at hb;simp [hb])) (fun b hb=>.inl hb)
 have lt2:=m2.a.lt
 have nw:J.next≠wb:=by have:=bp wb (by simp);omega
 have bs4:=(ch.aa J.next (lt2 _ (by simp)) (by simpa using nw)).trans bs2
 have K4:aw X J J4:=⟨Nat.le_trans KX2.next ch.next,fun b hb=>(ch.aa b (lt2 b (by simp [hb])) (by simp;rintro rfl;exact hx hb)).trans (KX2.aa b hb)⟩
 have lr:(cQ p r st a).R.length=r:=by simp [cQ]
 refine Ok.cv (Nd (i:=Ds.length) (n:=N) (d:=cQ p r st a) (p:=(p:Int)) (zs:=zs) (sa:=sa) m4 hz2 (by omega) (by simp;omega) (by simp) hk (by rw [lr];exact bs4) ⟨a',R5,j2⟩ (hA.of K4) hn ⟨hx,nw⟩ rfl xe) ?_ (fun q hq=>by obtain ⟨_,e,_⟩:=hq;cases e)
 rintro _ ⟨J5,e,M5,L5,T5,d5,m5,hz5,hd5,k5,eP⟩
 simp only [Sum.inl.injEq] at e
 subst e
 refine bZ ?_
 have lt5:=m5.a.lt
 rw [List.set_append_right _ _ (Nat.le_refl _),Nat.sub_self] at m5 hd5
 have m6:=m5.bF (Z:=wb::X) (K:=[]) ⟨Nat.le_refl _,fun _ _ _=>rfl⟩ (by simp) (fun b hb=>.inl (by simp at hb ⊢;simp [hb]))
 exact U.2 ⟨J5,rfl,M5,S2,w2,L5,T5,d5,{m6 with bW:=m6.bW.le (by omega) (Int.le_refl _)},hz5,hd5,K4.trans k5.tail,fun w hw=>by
  rw [eP] at hw
  exact (List.mem_replicate.1 hw).2⟩
end
theorem Ji {J:AH O} {X:List Nat} (hX:∀ b∈X,b<J.next) {sa:SA} {zs:List MZ} (hA:sk J X sa zs) (hN:zs.length<=20) (ho:∀ z∈zs,z.ok):
  Ok (Xb [.sl sa zs.length] J) fun q=>∃ sb nb lb pb mb M S w L T Ds a,q.1=.aB [.p (some (.n sb,0)),.sl a Ds.length,.b true]/\lI q.2 sb nb lb pb mb M S w L T X Ds zs.length (120*Ds.length)/\Ds.length=zs.length/\ss a (Ds.map DO.ov)/\aw X J q.2/\∀ d∈Ds,∀ w∈d.P,w=0:=by
 have f0:(false == false)=true:=rfl
 have z0:((0:Int) == 0)=true:=rfl
 (unfold Xb qmu;refine bZ ?_)
 refine Ok.step (Ng hX (small:=8) (words:=8*(zs.length:Int)) (by decide) (by omega)) fun q ⟨sb,nb,lb,pb,mb,M,S,g1,g2,g3,g4,g5,g6,_,g7⟩=>?_
 obtain ⟨q,J1⟩:=q
 simp only at g1 g2 g7
 subst g1
 subst g3
 obtain ⟨el,oy⟩:=g2.s
 rw [show (8*(zs.length:Int)).toNat=8*zs.length by omega] at g2
 simp (maxSteps:=2000000) -implicitDefEqProofs (disch:=(first |omega |rfl |assumption |(simp only [aO];first |omega |assumption))) only [BC,LV,El,Nh,Xc,qcj,oy,Option.isNone_some,f0,z0,bne,Bool.not_true,Nat.reduceAdd,Nat.reduceMul,Nat.reduceLT,Int.reduceToNat,Int.reduceAdd,Int.reduceSub,Int.reduceMul,eA,gM]
 generalize hJ:AH.put _ J1.next _=J2
 have n2:J2.next=J1.next+1:=by rw [<-hJ];rfl
 have b2:J2.aa J1.next=some (.cells true qas [.i .i64 8,.i .i64 (8*(zs.length:Int)),.i .i64 0,.i .i64 0,.sl .nil 0]):=by rw [<-hJ];exact aH
 have E2:Ext J1 J2:=⟨by omega,fun b hb=>by rw [<-hJ];exact hU⟩
 clear hJ
 have lt1:=g2.lt
 have m0:=lI.new (N:=zs.length) (g2.beside (Z:=J1.next::X) E2 (fun b hb=>by
  rcases List.mem_cons.1 hb with h |h
  ·exact .inr ⟨by omega,by omega⟩
  ·exact .inl h)) g4 g5 g6
 have K2:aw X J J2:=⟨Nat.le_trans g7.next E2.next,fun b hb=>(E2.aa b (lt1 b hb)).trans (g7.aa b hb)⟩
 have hx:J1.next∉X:=fun h=>by have:=lt1 _ h;omega
 have lp:Ok (bC (W9 (sa,zs.length) Nb (some (.n sb,0)) (([AV.b false],J1):List AV × AH O) Xa Qi R2) ([.i .i64 0],J2)) fun q=>∃ J' M S w L T Ds,q=.inl ([],J')/\lI J' sb nb lb pb mb M S w L T (J1.next::X) Ds zs.length (120*Ds.length)/\Ds.length=zs.length/\pW J' J1.next zs.length T S Ds/\aw X J2 J'/\∀ d∈Ds,∀ w∈d.P,w=0:=by
  refine Ok.count zs.length (fun k s=>∃ J' M S w L T Ds,s=([.i .i64 ((Ds.length:Nat):Int)],J')/\Ds.length=k/\lI J' sb nb lb pb mb M S w L T (J1.next::X) Ds zs.length (120*Ds.length)/\(∀ j,T.top<=j->T.ws.getD j 0=0)/\pW J' J1.next zs.length T S Ds/\aw X J2 J'/\∀ d∈Ds,∀ w∈d.P,w=0) ?_ ?_ ⟨J2,M,_,_,_,_,[],rfl,rfl,m0,fun j _=>AA,⟨.nil,b2,Row.nil OV.len⟩,aw.refl _ _,by simp⟩
  ·rintro k _ hk ⟨J3,M3,S3,w3,L3,T3,Ds,rfl,rfl,m3,Xd,hd3,k3,zP⟩
   refine (F4 m3 Xd (by omega) hN hk hd3 (hA.of (K2.trans k3)) rfl ho hx rfl).mono ?_
   rintro _ ⟨J4,rfl,M4,S4,w4,L4,T4,d4,m4,hz4,hd4,k4,zP4⟩
   exact ⟨J4,M4,S4,w4,L4,T4,Ds++[d4],by rw [List.length_append];rfl,by simp,{m4 with bW:=m4.bW.le (by simp;omega) (Int.le_refl _)},hz4,hd4,k3.trans k4,fun d hd=>by
    rcases List.mem_append.1 hd with hd |hd
    ·exact zP d hd
    ·simp at hd;subst hd;exact zP4⟩
  ·rintro _ ⟨J3,M3,S3,w3,L3,T3,Ds,rfl,hl,m3,Xd,hd3,k3,zP⟩
   (unfold W9;refine bZ ?_)
   exact U.2 ⟨J3,M3,S3,w3,L3,T3,Ds,rfl,m3,hl,hd3,k3,zP⟩
 refine Ok.cv lp ?_ (fun q hq=>by obtain ⟨_,_,_,_,_,_,_,e,_⟩:=hq;cases e)
 rintro _ ⟨J3,M3,S3,w3,L3,T3,Ds,e,m3,hl,⟨a,mz,ha⟩,k3,zP⟩
 simp only [Sum.inl.injEq] at e
 subst e
 refine cw mz ?_
 have m4:=m3.bF (Z:=X) (K:=[]) ⟨Nat.le_refl _,fun _ _ _=>rfl⟩ (by simp) (fun b hb=>.inl (by simp [hb]))
 exact U.2 ⟨sb,nb,lb,pb,mb,M3,S3,w3,L3,T3,Ds,a,rfl,m4,hl,ha,K2.trans k3,zP⟩
end Go.Abs.Tryz
set_option maxHeartbeats 2000000
namespace Go.Abs.Tryz
open Go Go.Abs
variable {O:Type}
theorem oL {g:Nat->Nat} (h:∀ j,g j=0):∀ n,dT g n=0
 |0=>rfl
 |n+1=>by simp only [dT,oL h n,h n]
theorem lI.ev {J:AH O} {sb nb lb pb mb:Nat} {M:ah} {S:ao} {w:List Int} {L:aP} {T:bn} {X:List Nat} {Ds:List DO} {N:Nat} {c:Int} (m:lI J sb nb lb pb mb M S w L T X Ds N c) (i:Nat):EV Ds (fun _=>none) L.fresh (T.flip i) T.ws T.top where
 ok:=fun d hd=>(m.ok d hd).1
 sm:=m.sm
 ap:=m.ap
 vl:=m.a.top
 top:=(oL (fun j=>rfl) _).symm
 Jj:=m.top
 wl:=List.length_replicate
 s0:=fun i d hd hl _=>m.s0 d (List.mem_of_getElem? hd) hl
 s1:=fun i d t hd hl h=>by cases h
 l0:=fun i d hd hl _=>⟨by simp [aP.fresh],m.l0 d (List.mem_of_getElem? hd) hl⟩
 l1:=fun i d t hd hl h=>by cases h
 inj:=fun i j a b t _ _ _ _ h _=>by cases h
def ah.t (M:ah):Int:=M.met.r+M.met.w
theorem bq.mem {J:AH O} {sb nb lb pb mb:Nat} {M:ah} {S:ao} {w:List Int} {L:aP} {T:bn} {X:List Nat} {Y:List Int} (h:bq J sb nb lb pb mb M S w L T X Y):∃ el tb vQ rest,J.aa sb=some (.cells true el [.p (some (.n mb,0)),.p (some (.n nb,0)),.p (some (.n lb,0)),.i .i64 T.small])/\J.aa mb=some (.cells true vQ (.p (some (.n tb,0))::rest))/\gQ J tb M.met:=by
 obtain ⟨el,hs⟩:=h.s
 obtain ⟨F,h1,_⟩:=h.l.p.mi
 obtain ⟨tb,vQ,rest,q1,q2⟩:=h1.Xe
 exact ⟨el,tb,vQ,rest,hs,q1,q2⟩
theorem ah.t0 {M:ah} (jv:M.ok):0<=M.t:=by
 have h1:=jv.met.r
 have h2:=jv.met.w
 unfold ah.t;omega
section
variable {f:Fn × List AV × List AV} {Tw:List Hd->AH O->List Nat->Prop} (tl:eL f Tw) {J:AH O} {eb sb nb lb pb mb:Nat} {M:ah} {S:ao} {w:List Int} {L:aP} {T:bn} {X Z:List Nat} {Y:List Int} {aW:Int} {v:List Int} {ot:Nat} {hs:List Hd} (h:bd f Tw J eb sb nb lb pb mb M S w L T X Y aW v ot hs Z)
include tl h
theorem bd.bF {J':AH O} {K X':List Nat} (hc:ei K J J') (hl:∀ b∈K,b∈X ∨ J.next<=b) (hX:∀ b∈X',b∈X ∨ (J.next<=b/\b<J'.next)):bd f Tw J' eb sb nb lb pb mb M S w L T X' Y aW v ot hs Z:=by
 have le:=h.lt
 have lZ:=h.lZ
 have ne:eb∉K:=fun hm=>by
  rcases hl _ hm with g |g
  ·exact h.nx.2 g
  ·omega
 have nz:∀ b∈Z,b∉K:=fun b hb hm=>by
  rcases hl _ hm with g |g
  ·exact h.nz b hb g
  ·have:=lZ b hb;omega
 refine ⟨⟨h.t.s.bF hc (fun b hb=>?_) (fun b hb=>?_),h.t.cO,h.t.w,h.t.top⟩,(hc.aa eb le ne).trans h.b,⟨h.nx.1,fun hm=>?_⟩,fun b hb hm=>?_,tl.dv h.j ⟨hc.next,fun b hb=>hc.aa b (lZ b hb) (nz b hb)⟩⟩
 ·rcases hl b hb with g |g
  ·exact .inl (by simp [g])
  ·exact .inr g
 ·simp only [List.mem_cons,List.mem_append] at hb ⊢
  rcases hb with hb |hb |hb
  ·exact .inl (.inl hb)
  ·exact .inl (.inr (.inl hb))
  ·rcases hX b hb with g |g
   ·exact .inl (.inr (.inr g))
   ·exact .inr g
 ·rcases hX _ hm with g |g
  ·exact h.nx.2 g
  ·omega
 ·rcases hX b hm with g |g
  ·exact h.nz b hb g
  ·have:=lZ b hb;omega
end
theorem su (J:AH O) (p r s g w:Int) (l:Bool) {a b:SA} {n m:Nat} (hn:n<=100000) (hm:m<=100000):Ok (Ni [.agg [.i .i64 p,.i .i64 r,.i .i64 s,.i .i64 g,.b l,.sl a n,.sl b m,.i .u64 w]] J) fun q=>q.1=.i .i64 ((1+n+m:Nat):Int)/\Ext J q.2:=by
 (unfold Ni qaf;refine bZ ?_)
 exact U.2 ⟨by show AV.i _ _=AV.i _ _;congr 1<;>omega,rj⟩
end Go.Abs.Tryz
set_option maxRecDepth 100000
namespace Go.Abs.Tryz
open Go Go.Abs Go.Proofs
variable {O:Type}
theorem CN {P:Program} {d:Nat} {t:TypeId} {fs:Array Field} {cs:List AV} (hu:P.underlying t=some (.struct fs)) (h:nv P (d+1) t cs):
  ∃ parts:List (List AV),cs=parts.flatten/\parts.length=fs.toList.length/\∀ (i:Nat) (f:Field) (part:List AV),fs.toList[i]? = some f->parts[i]? = some part->nv P d f.type part:=by
 unfold nv at h;rw [hu] at h;exact h
def MZ.cs (z:MZ):List AV:=[.i .i64 z.p,.i .i64 z.r,.i .u8 (z.s:Int),.i .u64 z.w]
theorem Jk {d:Nat} {cs:List AV} (h:nv Tryz.prog (d+2) 37 cs):∃ p r,cs=[.i .i64 p,.i .i64 r]/\(-9223372036854775808<=p/\p<=9223372036854775807)/\(-9223372036854775808<=r/\r<=9223372036854775807):=by
 obtain ⟨parts,rfl,hl,hp⟩:=CN Tryz.underlying37 h
 match parts,hl,hp with
 |[p0,p1],_,hp=>
  obtain ⟨a,rfl,ha⟩:=Cq (k:=.i64) Tryz.underlying3 (hp 0 _ p0 rfl rfl)
  obtain ⟨b,rfl,hb⟩:=Cq (k:=.i64) Tryz.underlying3 (hp 1 _ p1 rfl rfl)
  exact ⟨a,b,rfl,ha,hb⟩
theorem Em {d:Nat} {cs:List AV} (h:nv Tryz.prog (d+3) 73 cs):∃ z:MZ,cs=z.cs/\z.ok:=by
 obtain ⟨parts,rfl,hl,hp⟩:=CN Tryz.underlying73 h
 match parts,hl,hp with
 |[p0,p1,p2],_,hp=>
  obtain ⟨p,r,rfl,ip,ir⟩:=Jk (d:=d) (hp 0 _ p0 rfl rfl)
  obtain ⟨s,rfl,hs⟩:=Cq (k:=.u8) Tryz.underlying5 (hp 1 _ p1 rfl rfl)
  obtain ⟨w,rfl,hw⟩:=Cq (k:=.u64) Tryz.underlying33 (hp 2 _ p2 rfl rfl)
  obtain ⟨s,rfl⟩:=Int.eq_ofNat_of_zero_le hs.1
  have h2:(s:Int)<=255:=hs.2
  exact ⟨⟨p,r,s,w⟩,rfl,ip,ir,by show s<256;omega⟩
theorem AB {d:Nat}:∀ {els:List (List AV)},(∀ el∈els,nv Tryz.prog (d+3) 73 el)->∃ zs:List MZ,zs.length=els.length/\zs.flatMap MZ.cs=els.flatten/\∀ z∈zs,z.ok
 |[],_=>⟨[],rfl,rfl,by simp⟩
 |e::els,h=>by
  obtain ⟨z,rfl,hz⟩:=Em (h e List.mem_cons_self)
  obtain ⟨zs,h1,h2,h3⟩:=AB (d:=d) (els:=els) fun y hy=>h y (List.mem_cons_of_mem _ hy)
  refine ⟨z::zs,by simp [h1],by rw [List.flatMap_cons,List.flatten_cons,h2],fun y hy=>?_⟩
  rcases List.mem_cons.1 hy with rfl |hy
  ·exact hz
  ·exact h3 y hy
theorem Jl {J:AH O} {X:List Nat} {a:SA} {zs:List MZ} (h:iu 4 a zs.length (zs.flatMap MZ.cs)):sk J X a zs:=by
 intro i z hz
 obtain ⟨b,o,rfl,ld⟩:=iu.row (enc:=MZ.cs) (fun _=>rfl) h hz (by decide)
 exact ⟨b,o,rfl,fun J' _=>⟨ld O J' 0 (by decide),ld O J' 1 (by decide),ld O J' 2 (by decide),ld O J' 3 (by decide)⟩⟩
end Go.Abs.Tryz
