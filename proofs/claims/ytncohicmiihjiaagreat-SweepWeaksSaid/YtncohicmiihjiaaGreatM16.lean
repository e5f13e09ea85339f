/-
  Layers 14 and 16: the near space and the store over both kinds of objects: what is read, written and taken. No conditions.
-/
import Derived.Test.YtncohicmiihjiaaGreatM15
import Derived.Test.YtncohicmiihjiaaGreatM12
set_option linter.unusedVariables false
set_option linter.unusedSimpArgs false
set_option linter.constructorNameAsVariable false
set_option linter.unusedSimpArgs false
set_option linter.unusedVariables false
set_option linter.unusedSectionVars false
set_option maxHeartbeats 1000000
namespace Go.Abs.Tryz
open Go Go.Abs
variable {O:Type}
structure bn where
 id:Int
 ws:List Int
 top:Nat
 cO:List AV
 small:Int
def bn.yQ (T:bn) (mb:Nat):List AV:=.p (some (.n mb,0))::.i .i64 T.id::.i .i64 (T.top:Int)::T.cO
structure bq (J:AH O) (sb nb lb pb mb:Nat) (M:ah) (S:ao) (w:List Int) (L:aP) (T:bn) (X:List Nat) (Y:List Int):Prop where
 l:bK J lb pb mb M S w L (nb::sb::X) (T.id::Y)
 n:∃ el,J.aa nb=some (.cells true el (T.yQ mb))
 s:∃ el,J.aa sb=some (.cells true el [.p (some (.n mb,0)),.p (some (.n nb,0)),.p (some (.n lb,0)),.i .i64 T.small])
 now:ak M.sp T.id=some T.ws
 top:T.top<=T.ws.length
 nd:nb≠sb/\nb∉X/\sb∉X
 oY:T.id∉Y
theorem fQ.side {M M':ah} {V:Nat->Option (Int × Int × Int)} {oO:Int} {ob:Nat->Option (List Int)} {ep:Int} {H:List Nat} {Y:List Int} {id:Int} (h:fQ M V oO ob ep H (id::Y)) (hw:∀ y v,y≠id->ak M.sp y=some v->ak M'.sp y=some v) (jT:ak M'.sp id≠none):fQ M' V oO ob ep H (id::Y):=
 ⟨h.Gj,fun i ws ho=>by
  obtain ⟨sp,mk,a1,a2,a3,a4,a5,a6,a7⟩:=h.at_ i ws ho
  exact ⟨sp,mk,a1,a2,a3,a4,hw sp ws (fun e=>a7 (by simp [e])) a5,a6,a7⟩,h.apart,fun y hy=>⟨by
  by_cases e:y=id
  ·rw [e];exact jT
  ·obtain ⟨g1,g2⟩:=h.others y hy
   cases hv:ak M.sp y with
   |none=>exact absurd hv g1
   |some v=>rw [hw y v e hv];simp,(h.others y hy).2⟩⟩
theorem sx (J:AH O) (id top at_:Int) (h0 : -4611686018427387904<=top/\top<=4611686018427387904) (h1 : -9223372036854775808<=at_/\at_<=9223372036854775807):Ok (Mc [.agg [.i .i64 id,.i .i64 top],.i .i64 at_,.i .i64 1] J) fun r=>r.1=.b (decide (0<=at_/\at_<top))/\Ext J r.2:=by
 by_cases c1:0<=at_
 ·by_cases c2:at_<=top
  ·(unfold Mc U9;refine cw @ge_iff_le.{0} ?_)
   exact U.2 ⟨by show AV.b _=AV.b _;congr 1;exact decide_eq_decide.2 (by omega),rj⟩
  ·(unfold Mc U9;refine cw @ge_iff_le.{0} ?_)
   exact U.2 ⟨by show AV.b _=AV.b _;congr 1<;>first |exact (decide_eq_false (by omega)).symm |exact decide_eq_decide.2 (by omega),rj⟩
 ·(unfold Mc U9;refine cw @ge_iff_le.{0} ?_)
  exact U.2 ⟨by show AV.b _=AV.b _;congr 1<;>first |exact (decide_eq_false (by omega)).symm |exact decide_eq_decide.2 (by omega),rj⟩
section
variable {J:AH O} {sb nb lb pb mb:Nat} {M:ah} {S:ao} {w:List Int} {L:aP} {T:bn} {X:List Nat} {Y:List Int} (h:bq J sb nb lb pb mb M S w L T X Y)
include h
theorem bq.SD:nb<J.next:=h.l.lX nb (by simp)
theorem bq.slt:sb<J.next:=h.l.lX sb (by simp)
theorem bq.tl:T.ws.length<=4194304:=h.l.p.mi.uO h.now
theorem bq.lt:∀ b∈X,b<J.next:=fun b hb=>h.l.lX b (by simp [hb])
theorem bq.ext {J':AH O} (e:Ext J J'):bq J' sb nb lb pb mb M S w L T X Y:=
 {h with l:=h.l.ext e,n:=by obtain ⟨el,hn⟩:=h.n;exact ⟨el,(e.aa _ h.SD).trans hn⟩,s:=by obtain ⟨el,hs⟩:=h.s;exact ⟨el,(e.aa _ h.slt).trans hs⟩}
theorem bq.fY {J':AH O} {M':ah} {S':ao} {w':List Int} {L':aP} {k a c:Int} (l:bK J' lb pb mb M' S' w' L' (nb::sb::X) (T.id::Y)) (b:dp (T.id::Y) M M' k a c) (kp:aw (nb::sb::X) J J'):bq J' sb nb lb pb mb M' S' w' L' T X Y:=
 {h with l:=l,n:=by obtain ⟨el,hn⟩:=h.n;exact ⟨el,(kp.aa _ (by simp)).trans hn⟩,s:=by obtain ⟨el,hs⟩:=h.s;exact ⟨el,(kp.aa _ (by simp)).trans hs⟩,now:=(b.dv _ (by simp)).trans h.now}
theorem bq.C0 {J':AH O} {M':ah} {ws:List Int} (hi:bu J' mb M' (pb::lb::nb::sb::X)) (kp:aw (pb::lb::nb::sb::X) J J') (hw:∀ y v,y≠T.id->ak M.sp y=some v->ak M'.sp y=some v) (hn:ak M'.sp T.id=some ws) (hl:ws.length=T.ws.length):bq J' sb nb lb pb mb M' S w L {T with ws:=ws} X Y:=by
 have db:S.id≠T.id:=(h.l.o.others T.id (by simp)).2.symm
 obtain ⟨el,hb⟩:=h.l.b
 obtain ⟨vQ,fv⟩:=h.n
 obtain ⟨Hz,mz⟩:=h.s
 exact {l:={h.l with p:={h.l.p with mi:=hi,b:=(kp.aa _ (by simp)).trans h.l.p.b,now:=hw _ _ db h.l.p.now},b:=⟨el,(kp.aa _ (by simp)).trans hb⟩,o:=h.l.o.side hw (by rw [hn];simp)},n:=⟨vQ,(kp.aa _ (by simp)).trans fv⟩,s:=⟨Hz,(kp.aa _ (by simp)).trans mz⟩,now:=hn,top:=by rw [hl];exact h.top,nd:=h.nd,oY:=h.oY}
theorem Kf:qjg [.p (some (.n nb,0))] J=some (.i .i64 (T.ws.length:Int),J):=by
 obtain ⟨el,hn⟩:=h.n
 simp only [bn.yQ] at hn
 (unfold qjg qjf;exact UC hn (Qp h.l.p.mi h.now))
theorem AO {n:Nat} (h1:1<=n) (hn:T.top+n<=T.ws.length):Ok (X7 [.p (some (.n nb,0)),.i .i64 (n:Int)] J) fun r=>r.1=.aB [.i .i64 (T.top:Int),.i .i64 0]/\bq r.2 sb nb lb pb mb M S w L {T with top:=T.top+n} X Y/\aw X J r.2:=by
 obtain ⟨el,hb⟩:=h.n
 obtain ⟨vQ,fv⟩:=h.s
 simp only [bn.yQ] at hb
 have Nl:=h.tl
 have Nk:=h.top
 (unfold X7 qjp qjl qjk;refine gh hb (Kf h) ?_)
 refine U.2 ⟨rfl,⟨?_,⟨el,aH.trans (by simp only [bn.yQ];rw [Int.natCast_add])⟩,⟨vQ,(aA h.nd.1.symm).trans fv⟩,h.now,hn,h.nd,h.oY⟩,aw.put h.nd.2.1 _⟩
 exact h.l.bF (K:=[nb]) ⟨by simp,fun c hc hm=>aA (by simpa using hm)⟩ (fun c hc=>.inl (by simp at hc;simp [hc])) (fun b hb=>.inl hb)
variable (hf:M.cT 100)
include hf
theorem Kg {at_:Int} (ha:0<=at_/\at_<T.top):Ok (qk9 [.p (some (.n nb,0)),.i .i64 at_] J) fun r=>r.1=.aB [.i .u64 (T.ws.getD at_.toNat 0),.i .i64 0]/\∃ M',bq r.2 sb nb lb pb mb M' S w L T X Y/\dp Y M M' 1 0 0/\M'.met.r+M'.met.w=M.met.r+M.met.w+1/\aw X J r.2:=by
 obtain ⟨el,hb⟩:=h.n
 simp only [bn.yQ] at hb
 have Nl:=h.tl
 have Nk:=h.top
 (unfold qk9 qk8;refine cw hb ?_)
 refine Ok.step (sx J T.id T.top at_ (by omega) (by omega)) fun r ⟨g1,g2⟩=>?_
 obtain ⟨q,J1⟩:=r
 simp only at g1 g2
 rw [decide_eq_true ha] at g1
 subst g1
 have h1:=h.ext g2
 have cK:=(g2.aa _ h.SD).trans hb
 refine cw cK ?_
 refine Ok.step (CY h1.l.p.mi (hf.calm (by decide)) (id:=T.id) (at_:=at_) (by omega)) fun r ⟨k1,k2,k3⟩=>?_
 obtain ⟨q,J2⟩:=r
 rw [uU h.now,if_pos (by omega)] at k1 k2
 simp only at k1 k2 k3
 subst k1
 refine bZ ?_
 have uV:=h1.C0 (ws:=T.ws) k2 k3 (fun y v _ hv=>hv) h.now rfl
 exact U.2 ⟨rfl,M.rd 1,uV,dp.rd,by simp only [ah.rd];omega,((h.l.p.mi.dD g2).trans k3).mono fun b hb=>by simp [hb]⟩
theorem rO {at_ x:Int} (ha:0<=at_/\at_<T.top):Ok (U' [.p (some (.n nb,0)),.i .i64 at_,.i .u64 x] J) fun r=>r.1=.i .i64 0/\∃ M',bq r.2 sb nb lb pb mb M' S w L {T with ws:=T.ws.set at_.toNat x} X Y/\dp Y M M' 1 0 0/\M'.met.r+M'.met.w=M.met.r+M.met.w+1/\aw X J r.2:=by
 obtain ⟨el,hb⟩:=h.n
 simp only [bn.yQ] at hb
 have Nl:=h.tl
 have Nk:=h.top
 (unfold U' qjz;refine cw hb ?_)
 refine Ok.step (sx J T.id T.top at_ (by omega) (by omega)) fun r ⟨g1,g2⟩=>?_
 obtain ⟨q,J1⟩:=r
 simp only at g1 g2
 rw [decide_eq_true ha] at g1
 subst g1
 have h1:=h.ext g2
 have cK:=(g2.aa _ h.SD).trans hb
 refine cw cK ?_
 refine Ok.step (tu h1.l.p.mi (hf.calm (by decide)) (id:=T.id) (at_:=at_) (x:=x) (by omega)) fun r ⟨k1,k2,k3⟩=>?_
 obtain ⟨q,J2⟩:=r
 rw [na h.now,if_pos (by omega)] at k1 k2
 simp only at k1 k2 k3
 subst k1
 refine bZ ?_
 have h0:=(aF h.now).1
 have uV:=h1.C0 (ws:=T.ws.set at_.toNat x) k2 k3 (fun y v hy hv=>(cL hy h0).trans hv) (cU h0 (by simp [ah.put,ah.wr,(List.getElem?_eq_some_iff.1 (aF h.now).2).1])) (by simp)
 exact U.2 ⟨rfl,_,uV,dp.wrp h0 h.oY,by simp only [ah.wr,ah.put];omega,((h.l.p.mi.dD g2).trans k3).mono fun b hb=>by simp [hb]⟩
end
end Go.Abs.Tryz
namespace Go.Abs.Tryz
open Go Go.Abs
variable {O:Type}
theorem X8 {n:Nat} (h:n<2 ^ 64):bG .and .u64 (n:Int) 1=((n % 2:Nat):Int):=by
 show IntKind.u64.wrap (((BitVec.ofInt 64 (n:Int) &&& BitVec.ofInt 64 1).toNat:Nat):Int)=_
 rw [BitVec.toNat_and,eK (by omega) (by omega),eK (by decide) (by decide),Int.toNat_natCast,show (1:Int).toNat=2 ^ 1 - 1 from rfl,Nat.and_two_pow_sub_one_eq_mod]
 exact mA (by omega)
theorem or1 {n:Nat} (h:n<2 ^ 63):bG .or .u64 ((2*n:Nat):Int) 1=((2*n+1:Nat):Int):=by
 show IntKind.u64.wrap (((BitVec.ofInt 64 ((2*n:Nat):Int) ||| BitVec.ofInt 64 1).toNat:Nat):Int)=_
 rw [BitVec.toNat_or,eK (by omega) (by omega),eK (by decide) (by decide),Int.toNat_natCast]
 have:=Nat.two_pow_add_eq_or_of_lt (i:=1) (b:=1) (by decide) n
 rw [show (1:Int).toNat=1 from rfl,show 2*n=2 ^ 1*n from rfl,<-this]
 exact mA (by omega)
def m8 (at_:Nat):Int:=((2*at_+1:Nat):Int)
def nD (i:Nat):Int:=((2*(i+1):Nat):Int)
theorem jm (J:AH O) {at_:Nat} (h:at_<4194304):SE [.i .i64 (at_:Int)] J=some (.aB [.i .u64 (m8 at_),.i .i64 0],J):=by
 have e:IntKind.u64.wrap ((at_:Int)*2 ^ 1)=((2*at_:Nat):Int):=by rw [mA (by omega)];omega
 (unfold SE qj4;refine jE @ge_iff_le.{0} e (or1 (n:=at_) (by omega)) ?_)
 rfl
theorem uW (J:AH O) {i:Nat} (h:i<1048576):X9 [.i .i64 ((i:Int)+1)] J=some (.aB [.i .u64 (nD i),.i .i64 0],J):=by
 have e:IntKind.u64.wrap (((i:Int)+1)*2 ^ 1)=((2*(i+1):Nat):Int):=by rw [mA (by omega)];omega
 (unfold X9 qja;refine gh @gt_iff_lt.{0} e ?_)
 rfl
theorem jG (J:AH O) {at_:Nat} (h:at_<4194304):BE [.i .u64 (m8 at_)] J=some (.i .i64 1,J):=by
 have e1:bG .and .u64 (m8 at_) 1=1:=by unfold m8;rw [X8 (by omega)];omega
 have e2:Int.fdiv (m8 at_) (2 ^ 1)=(at_:Int):=by unfold m8;rw [Int.fdiv_eq_ediv_of_nonneg _ (by decide)];omega
 have e3:(m8 at_ == 0)=false:=by unfold m8;simp;omega
 have e4:((1:Int) == 1)=true:=rfl
 simp (maxSteps:=2000000) -implicitDefEqProofs (disch:=(first |omega |rfl |assumption |(simp only [aO];first |omega |assumption))) only [BE,qky,e1,e2,e3,e4,Nat.reduceAdd,Nat.reduceMul,Nat.reduceLT,Int.reduceToNat,Int.reduceAdd,Int.reduceSub,Int.reduceMul,eA,gM]
theorem jF (J:AH O) {i:Nat} (h:i<1048576):BE [.i .u64 (nD i)] J=some (.i .i64 2,J):=by
 have e1:bG .and .u64 (nD i) 1=0:=by unfold nD;rw [X8 (by omega)];omega
 have e2:Int.fdiv (nD i) (2 ^ 1)=(i:Int)+1:=by unfold nD;rw [Int.fdiv_eq_ediv_of_nonneg _ (by decide)];omega
 have e3:(nD i == 0)=false:=by unfold nD;simp;omega
 have e4:((0:Int) == 1)=false:=rfl
 have e5:((0:Int) == 0)=true:=rfl
 simp (maxSteps:=2000000) -implicitDefEqProofs (disch:=(first |omega |rfl |assumption |(simp only [aO];first |omega |assumption))) only [BE,qky,e1,e2,e3,e4,e5,Nat.reduceAdd,Nat.reduceMul,Nat.reduceLT,Int.reduceToNat,Int.reduceAdd,Int.reduceSub,Int.reduceMul,eA,gM]
theorem AP (J:AH O) {at_:Nat} (h:at_<4194304):Md [.i .u64 (m8 at_)] J=some (.i .i64 (at_:Int),J):=by
 have e2:Int.fdiv (m8 at_) (2 ^ 1)=(at_:Int):=by unfold m8;rw [Int.fdiv_eq_ediv_of_nonneg _ (by decide)];omega
 have e4:((1:Int) == 1)=true:=rfl
 (unfold Md qk3;exact Qd (jG J h) e2 e4)
theorem AQ (J:AH O) {i:Nat} (h:i<1048576):Md [.i .u64 (nD i)] J=some (.i .i64 ((i:Int)+1),J):=by
 have e2:Int.fdiv (nD i) (2 ^ 1)=(i:Int)+1:=by unfold nD;rw [Int.fdiv_eq_ediv_of_nonneg _ (by decide)];omega
 have e4:((2:Int) == 1)=false:=rfl
 have e5:((2:Int) == 2)=true:=rfl
 (unfold Md qk3;exact zU4 (jF J h) e2 e4 e5)
section
variable {J:AH O} {sb nb lb pb mb:Nat} {M:ah} {S:ao} {w:List Int} {L:aP} {T:bn} {X:List Nat} {Y:List Int} (h:bq J sb nb lb pb mb M S w L T X Y)
include h
theorem bq.vR {i:Nat} {ws:List Int} (ho:L.ob i=some ws):i<1048576:=by
 obtain ⟨e,sp,mk,he,_⟩:=h.l.at ho
 have:=(List.getElem?_eq_some_iff.1 he).1
 have:=h.l.el
 omega
theorem bq.QA:T.top<=4194304:=Nat.le_trans h.top h.tl
variable (hf:M.cT 1000)
include hf
end
end Go.Abs.Tryz
set_option maxHeartbeats 2000000
namespace Go.Abs.Tryz
open Go Go.Abs
variable {O:Type}
def uX (p r:Int):Int:=if gk p r 0 0=0 then 1+p+r else 0
theorem Ya {p r:Int} (h:gk p r 0 0=0):(0<=p/\p<=4095)/\(0<=r/\r<=4095):=by
 unfold gk at h
 split at h
 ·cases h
 ·omega
theorem kq (J:AH O) {p r s g:Int} {l:Bool} (hp:0<=p/\p<=4095) (hr:0<=r/\r<=4095):Ok (SF [.agg [.i .i64 p,.i .i64 r,.i .i64 s,.i .i64 g,.b l]] J) fun q=>q.1=.i .i64 (1+p+r)/\Ext J q.2:=by
 (unfold SF qc3;refine bZ ?_)
 exact U.2 ⟨rfl,rj⟩
theorem xt (J:AH O) (p r small:Int):Ok (qde [.agg [.i .i64 p,.i .i64 r],.i .i64 small] J) fun q=>q.1=.b (decide (uX p r > small))/\Ext J q.2:=by
 (unfold qde qdd qc9 qc8 SG qcy;refine bZ ?_)
 refine Ok.step (uT _ p r 0 0 false) fun q ⟨g1,g2⟩=>?_
 obtain ⟨q,J1⟩:=q
 simp only at g1 g2
 subst g1
 have cK:J1.aa (J.next+1)=some (.cells true 37 [.i .i64 p,.i .i64 r]):=(g2.aa _ (by simp)).trans (by exact hU)
 by_cases hc:gk p r 0 0=0
 ·have e1:(gk p r 0 0 == 0)=true:=by simp [hc]
  refine gh e1 cK ?_
  obtain ⟨c1,c2⟩:=Ya hc
  refine Ok.step (kq _ (s:=0) (g:=0) (l:=false) c1 c2) fun q ⟨k1,k2⟩=>?_
  obtain ⟨q,J2⟩:=q
  simp only at k1 k2
  subst k1
  refine bZ ?_
  exact U.2 ⟨by simp [uX,hc],(cN (by (have x0:=(g2).next);(have x1:=(k2).next);(try simp only [aO] at *);omega) (fun b hb=>by (have x0:=(g2).next);(have x1:=(k2).next);(try simp only [aO] at *);simp -implicitDefEqProofs (disch:=(first |omega |rfl |assumption |(simp only [aO];first |omega |assumption))) only [aA,bA,au,cB (g2),cB (k2)]))⟩
 ·have e1:(gk p r 0 0 == 0)=false:=by simp [hc]
  refine gh e1 cK ?_
  exact U.2 ⟨by simp [uX,hc],(cN (by (have x0:=(g2).next);(try simp only [aO] at *);omega) (fun b hb=>by (have x0:=(g2).next);(try simp only [aO] at *);simp -implicitDefEqProofs (disch:=(first |omega |rfl |assumption |(simp only [aO];first |omega |assumption))) only [aA,bA,au,cB (g2)]))⟩
theorem bq.beside {J J':AH O} {sb nb lb pb mb:Nat} {M:ah} {S:ao} {w:List Int} {L:aP} {T:bn} {X Z:List Nat} {Y:List Int} (h:bq J sb nb lb pb mb M S w L T X Y) (e:Ext J J') (hZ:∀ b∈Z,b∈X ∨ (J.next<=b/\b<J'.next)):bq J' sb nb lb pb mb M S w L T Z Y:=by
 have h1:=h.ext e
 have hn:=h.SD
 have hs:=h.slt
 exact {h1 with l:=h.l.bF (K:=[]) e.yz (by simp) (fun b hb=>by
   simp only [List.mem_cons] at hb ⊢
   rcases hb with rfl |rfl |hb
   ·exact .inl (.inl rfl)
   ·exact .inl (.inr (.inl rfl))
   ·rcases hZ b hb with g |g
    ·exact .inl (.inr (.inr g))
    ·exact .inr g),nd:=⟨h.nd.1,fun hm=>by rcases hZ _ hm with g |g;exact h.nd.2.1 g;omega,fun hm=>by rcases hZ _ hm with g |g;exact h.nd.2.2 g;omega⟩}
def kg (p r s:Nat) (small:Int):Hd:=⟨p,r,s,0,decide (((1+p+r:Nat):Int) > small)⟩
section
variable {J:AH O} {sb nb lb pb mb:Nat} {M:ah} {S:ao} {w:List Int} {L:aP} {T:bn} {X:List Nat} {Y:List Int} (h:bq J sb nb lb pb mb M S w L T X Y)
include h
omit h in
theorem uJ {p r s:Nat} {small:Int} (hp:p<4096) (hr:r<4096) (hs:s<32):(kg p r s small).ok:=⟨hp,hr,hs,by show 0<8;omega⟩
omit h in
theorem xu {p r:Nat} (hp:p<4096) (hr:r<4096):uX p r=((1+p+r:Nat):Int):=by
 have hc:gk p r 0 0=0:=by unfold gk;rw [if_neg (by omega),if_neg (by omega),if_neg (by omega)]
 unfold uX;rw [if_pos hc];omega
theorem CJ (hf:M.cT 1000) {p r s:Nat} (hp:p<4096) (hr:r<4096) (hs:s<32) (UJ:((1+p+r:Nat):Int)<=T.small) (Ai:T.top+(1+p+r)<=T.ws.length) (aia:T.top<4194304):
  Ok (Nb [.p (some (.n sb,0)),.agg [.i .i64 (p:Int),.i .i64 (r:Int)],.i .i64 (s:Int)] J) fun q=>q.1=.aB [.i .u64 (m8 T.top),.i .i64 0]/\∃ M',bq q.2 sb nb lb pb mb M' S w L {T with top:=T.top+(1+p+r),ws:=T.ws.set T.top ((kg p r s T.small).word:Int)} X Y/\dp Y M M' 3 0 0/\aw X J q.2:=by
 obtain ⟨el,oy⟩:=h.s
 have bp:=h.slt
 (unfold Nb qj9;refine cw oy ?_)
 refine Ok.step (xt _ (p:Int) (r:Int) T.small) fun q ⟨g1,g2⟩=>?_
 obtain ⟨q,J1⟩:=q
 simp only at g1 g2
 rw [xu hp hr,decide_eq_false (by omega)] at g1
 subst g1
 have Ma:=g2.next
 simp only [aO] at Ma
 have cK:J1.aa J.next=some (.cells true 37 [.i .i64 (p:Int),.i .i64 (r:Int)]):=(g2.aa _ (by simp;omega)).trans (by exact hU)
 refine cw cK ?_
 have hl:(kg p r s T.small).l=false:=decide_eq_false (by omega)
 have PF:=qa (J1.put (J.next+1) (.cells true 39 [.i .i64 (p:Int),.i .i64 (r:Int),.i .i64 (s:Int),.i .i64 0,.b false])) (uJ (small:=T.small) hp hr hs)
 simp only [Hd.av,hl] at PF
 refine Ok.step PF fun q ⟨k1,k2⟩=>?_
 obtain ⟨q,J2⟩:=q
 simp only at k1 k2
 subst k1
 have e0:((0:Int) != 0)=false:=rfl
 have k2n:=k2.next
 simp only [aO] at k2n
 have fv:J2.aa (J.next+1)=some (.cells true 39 [.i .i64 (p:Int),.i .i64 (r:Int),.i .i64 (s:Int),.i .i64 0,.b false]):=(k2.aa _ (by simp;omega)).trans aH
 have x2:Ext J J2:=(cN (by (have x0:=(g2).next);(have x1:=(k2).next);(try simp only [aO] at *);omega) (fun b hb=>by (have x0:=(g2).next);(have x1:=(k2).next);(try simp only [aO] at *);simp -implicitDefEqProofs (disch:=(first |omega |rfl |assumption |(simp only [aO];first |omega |assumption))) only [aA,bA,au,cB (g2),cB (k2)]))
 have vn:J2.aa sb=_:=(x2.aa _ bp).trans oy
 refine jE e0 fv vn ?_
 refine Ok.step (kq _ (s:=(s:Int)) (g:=0) (l:=false) (by omega) (by omega)) fun q ⟨j1,j2⟩=>?_
 obtain ⟨q,J3⟩:=q
 simp only at j1 j2
 subst j1
 have x3:Ext J J3:=x2.trans j2
 have Sc:J3.aa sb=_:=(x3.aa _ bp).trans oy
 have h3:bq J3 sb nb lb pb mb M S w L T X Y:=h.ext x3
 refine cw Sc ?_
 have tk:=AO h3 (n:=1+p+r) (by omega) Ai
 rw [show ((1+p+r:Nat):Int)=1+(p:Int)+(r:Int) by omega] at tk
 refine Ok.step tk fun q ⟨t1,t2,t3⟩=>?_
 obtain ⟨q,J4⟩:=q
 simp only at t1 t2 t3
 subst t1
 obtain ⟨el4,hs4⟩:=t2.s
 refine gh e0 hs4 ?_
 refine Ok.step (rO t2 (hf.less (by decide)) (at_:=(T.top:Int)) (x:=((kg p r s T.small).word:Int)) ⟨by omega,by simp only;omega⟩) fun q ⟨u1,M',u2,u3,_,u4⟩=>?_
 obtain ⟨q,J5⟩:=q
 simp only at u1 u2 u4
 subst u1
 refine cw (jm J5 aia) ?_
 rw [Int.toNat_natCast] at u2
 exact U.2 ⟨rfl,M',u2,u3.as (by decide) rfl rfl,((h.l.p.mi.dD x3).mono fun b hb=>by simp [hb]).trans (t3.trans u4)⟩
theorem CK (hf:M.cT 2000) {p r s:Nat} (hp:p<4096) (hr:r<4096) (hs:s<32) (UJ:T.small<((1+p+r:Nat):Int)) (je:M.count<262144) (hR:S.more*6<=4194304):
  Ok (Nb [.p (some (.n sb,0)),.agg [.i .i64 (p:Int),.i .i64 (r:Int)],.i .i64 (s:Int)] J) fun q=>q.1=.aB [.i .u64 (nD S.dq.1),.i .i64 0]/\L.ob S.dq.1=none/\∃ M' S' w' L',bq q.2 sb nb lb pb mb M' S' w' L' T X Y/\(L'.ep=L.ep/\L'.H=L.H++[S.dq.1]/\L'.words=L.words+((1+p+r:Nat):Int))/\(L'.ob=fun j=>if j=S.dq.1 then some ((List.replicate (1+p+r) 0).set 0 ((kg p r s T.small).word:Int)) else L.ob j)/\Alike S.dq.2 S'/\dp Y M M' 27 (((1+p+r:Nat):Int)+6*((S.dq.2.room:Int) - S.room)) 1/\aw X J q.2:=by
 obtain ⟨el,oy⟩:=h.s
 have bp:=h.slt
 (unfold Nb qj9;refine cw oy ?_)
 refine Ok.step (xt _ (p:Int) (r:Int) T.small) fun q ⟨g1,g2⟩=>?_
 obtain ⟨q,J1⟩:=q
 simp only at g1 g2
 rw [xu hp hr,decide_eq_true (by omega)] at g1
 subst g1
 have Ma:=g2.next
 simp only [aO] at Ma
 have cK:J1.aa J.next=some (.cells true 37 [.i .i64 (p:Int),.i .i64 (r:Int)]):=(g2.aa _ (by simp;omega)).trans (by exact hU)
 refine cw cK ?_
 have hl:(kg p r s T.small).l=true:=decide_eq_true (by omega)
 have PF:=qa (J1.put (J.next+1) (.cells true 39 [.i .i64 (p:Int),.i .i64 (r:Int),.i .i64 (s:Int),.i .i64 0,.b true])) (uJ (small:=T.small) hp hr hs)
 simp only [Hd.av,hl] at PF
 refine Ok.step PF fun q ⟨k1,k2⟩=>?_
 obtain ⟨q,J2⟩:=q
 simp only at k1 k2
 subst k1
 have e0:((0:Int) != 0)=false:=rfl
 have k2n:=k2.next
 simp only [aO] at k2n
 have fv:J2.aa (J.next+1)=some (.cells true 39 [.i .i64 (p:Int),.i .i64 (r:Int),.i .i64 (s:Int),.i .i64 0,.b true]):=(k2.aa _ (by simp;omega)).trans aH
 have x2:Ext J J2:=(cN (by (have x0:=(g2).next);(have x1:=(k2).next);(try simp only [aO] at *);omega) (fun b hb=>by (have x0:=(g2).next);(have x1:=(k2).next);(try simp only [aO] at *);simp -implicitDefEqProofs (disch:=(first |omega |rfl |assumption |(simp only [aO];first |omega |assumption))) only [aA,bA,au,cB (g2),cB (k2)]))
 have vn:J2.aa sb=_:=(x2.aa _ bp).trans oy
 refine jE e0 fv vn ?_
 refine Ok.step (kq _ (s:=(s:Int)) (g:=0) (l:=true) (by omega) (by omega)) fun q ⟨j1,j2⟩=>?_
 obtain ⟨q,J3⟩:=q
 simp only at j1 j2
 subst j1
 have x3:Ext J J3:=x2.trans j2
 have Sc:J3.aa sb=_:=(x3.aa _ bp).trans oy
 have h3:bq J3 sb nb lb pb mb M S w L T X Y:=h.ext x3
 refine cw Sc ?_
 have tk:=NI h3.l (hf.less (by decide)) (n:=((1+p+r:Nat):Int)) (by omega) (by omega) je hR
 rw [Int.toNat_natCast] at tk
 rw [show (AV.i .i64 ((1+p+r:Nat):Int))=.i .i64 (1+(p:Int)+(r:Int)) by congr 1<;>omega] at tk
 refine Ok.step tk fun q ⟨t1,t0,M4,S4,w4,t2,t3,t4,t5⟩=>?_
 obtain ⟨q,J4⟩:=q
 simp only at t1 t2 t5
 subst t1
 have h4:=h3.fY t2 t4 t5
 obtain ⟨el4,hs4⟩:=h4.s
 refine gh e0 hs4 ?_
 have ho:({L with H:=L.H++[S.dq.1],words:=L.words+((1+p+r:Nat):Int),ob:=fun j=>if j=S.dq.1 then some (List.replicate (1+p+r) 0) else L.ob j}:aP).ob S.dq.1=some (List.replicate (1+p+r) 0):=if_pos rfl
 have yP:=h4.vR ho
 refine Ok.step (Gm h4.l (t4.cT (hf.less (by decide))) ho (at_:=0) (x:=((kg p r s T.small).word:Int)) ⟨by decide,by first |omega |(simp;done) |(simp;omega)⟩) fun q ⟨u1,M5,u2,u3,u4⟩=>?_
 obtain ⟨q,J5⟩:=q
 simp only at u1 u2 u4
 subst u1
 refine cw (uW J5 yP) ?_
 refine U.2 ⟨rfl,t0,M5,S4,w4,_,h4.fY u2 u3 u4,⟨rfl,rfl,rfl⟩,?_,t3,?_,?_⟩
 ·funext j
  simp only
  by_cases hj:j=S.dq.1
  ·rw [if_pos hj,if_pos hj];rfl
  ·rw [if_neg hj,if_neg hj,if_neg hj]
 ·exact ((t4.trans u3).as (by decide) (by omega) (by omega)).mono fun y hy=>by simp [hy]
 ·exact ((h.l.p.mi.dD x3).mono fun b hb=>by simp [hb]).trans ((t5.trans u4).tail.tail)
end
end Go.Abs.Tryz
namespace Go.Abs.Tryz
open Go Go.Abs
variable {O:Type}
theorem Ng {J:AH O} {X:List Nat} (hX:∀ b∈X,b<J.next) {small words:Int} (h1:2<=small/\small<=64) (h2:0<=words/\words<=4194304):
  Ok (qb5 [.i .i64 small,.i .i64 words] J) fun r=>∃ sb nb lb pb mb M S,r.1=.aB [.p (some (.n sb,0)),.i .i64 0]/\bq r.2 sb nb lb pb mb M S [] ⟨[],[],0,0,0,fun _=>none⟩ ⟨0,List.replicate words.toNat 0,0,[.i .i64 0,.i .i64 0,.b false],small⟩ X []/\S=⟨1,5,0,[],[],0⟩/\M.count=2/\M.met.r=0/\M.met.w=0/\M.met.held=words/\aw X J r.2:=by
 have e0:((0:Int) != 0)=false:=rfl
 (unfold qb5 qb4;refine cw @gt_iff_lt.{0} ?_)
 refine Ok.step (aie hX) fun r ⟨g1,g2,g3⟩=>?_
 obtain ⟨q,J1⟩:=r
 simp only at g1 g2 g3
 subst g1
 (unfold qbq qbp;refine bZ ?_)
 have hff:ff ah.new.sp=0:=rfl
 refine Ok.step (Ev g2 ⟨by decide,by decide⟩ h2.1 h2.2 (by decide)) fun r ⟨k1,k2,k3⟩=>?_
 obtain ⟨q,J2⟩:=r
 simp only at k1 k2 k3
 rw [hff] at k1 k2
 subst k1
 refine cw e0 ?_
 have kX:∀ b∈X,b<J2.next:=fun b hb=>k2.lt b hb
 have kn:=k3.next
 have k4:bu ((J2.az 1).put J2.next (.cells true 135 [.p (some (.n J.next,0)),.i .i64 0,.i .i64 0,.i .i64 0,.i .i64 0,.b false])) J.next (ah.new.iv 0 words) (J2.next::X):=
  k2.bF (L:=[J2.next]) ⟨by simp,fun b hb hm=>by exact hU⟩ (fun b hb=>.inr (by simp at hb;omega)) (fun b hb=>by
   rcases List.mem_cons.1 hb with rfl |hb
   ·exact .inr ⟨Nat.le_refl _,by simp⟩
   ·exact .inl hb)
 have Uo:ak (ah.new.iv 0 words).sp 0=some (List.replicate words.toNat 0):=ry (M:=ah.new) (n:=words)
 refine Ok.step (NG (Y:=[0]) k4 ⟨show (0:Int)<_ by decide,show (0:Int)<_ by decide⟩ (show (1:Int)<262144 by decide) (fun y hy=>by simp at hy;subst hy;rw [Uo];simp)) fun r ⟨lb,pb,M',S,j1,j2,j3,j4,j5,j6⟩=>?_
 obtain ⟨q,J3⟩:=r
 simp only at j1 j2 j6
 subst j1
 refine cw e0 ?_
 have aii:ff (ah.new.iv 0 words).sp=1:=rfl
 rw [aii] at j3 j4
 have j6n:=j6.next
 simp only [aO] at j6n
 have XT:=j2.lX
 have hn3:J3.aa J2.next=some (.cells true 135 [.p (some (.n J.next,0)),.i .i64 0,.i .i64 0,.i .i64 0,.i .i64 0,.b false]):=(j6.aa _ (by simp)).trans aH
 refine U.2 ⟨J3.next,J2.next,lb,pb,J.next,M',S,rfl,⟨?_,⟨135,?_⟩,⟨_,aH⟩,?_,by simp,⟨by omega,fun hm=>by have:=kX _ hm;omega,fun hm=>by have:=XT J3.next (by simp [hm]);omega⟩,by simp⟩,j3,?_,?_,?_,?_,?_⟩
 ·refine j2.bF (K:=[J3.next]) ⟨by simp,fun b hb hm=>by exact hU⟩ (fun b hb=>.inr (by simp at hb;omega)) (fun b hb=>?_)
  simp only [List.mem_cons] at hb ⊢
  rcases hb with rfl |rfl |hb
  ·exact .inl (.inl rfl)
  ·exact .inr ⟨Nat.le_refl _,by simp⟩
  ·exact .inl (.inr hb)
 ·refine UE ?_
  exact hn3
 ·exact (j5.dv 0 (by simp)).trans Uo
 ·rw [j4];rfl
 ·rw [j4];rfl
 ·rw [j4];rfl
 ·rw [j4];simp [ah.iv,ah.new,fX.hold,fX.zero]
 ·exact (⟨g3.next,fun b hb=>g3.aa b (hX b hb)⟩:aw X J J1).trans (k3.trans ((⟨by simp,fun b hb=>by have:=kX b hb;exact hU⟩:aw X J2 _).trans (j6.tail.trans ⟨by simp,fun b hb=>by have:=XT b (by simp [hb]);exact hU⟩)))
end Go.Abs.Tryz
namespace Go.Abs.Tryz
open Go Go.Abs
variable {O:Type}
structure Ob where
 lg:Bool
 at_:Nat
 n:Nat
 deriving DecidableEq
def Ob.ref (o:Ob):Int:=if o.lg then nD o.at_ else m8 o.at_
structure GS (T:bn) (L:aP) (Os:List Ob):Prop where
 sm:∀ o∈Os,o.lg=false->o.at_+o.n<=T.top
 lg:∀ o∈Os,o.lg=true->∃ ws,L.ob o.at_=some ws/\ws.length=o.n
 ap:∀ (i j:Nat) (a b:Ob),i<j->Os[i]? = some a->Os[j]? = some b->a.lg=b.lg->(if a.lg then a.at_≠b.at_ else a.at_+a.n<=b.at_)
def Ht (T:bn) (L:aP) (o:Ob) (k:Nat):Int:=if o.lg then ((L.ob o.at_).getD []).getD k 0 else T.ws.getD (o.at_+k) 0
section
variable {J:AH O} {sb nb lb pb mb:Nat} {M:ah} {S:ao} {w:List Int} {L:aP} {T:bn} {X:List Nat} {Y:List Int} (h:bq J sb nb lb pb mb M S w L T X Y) (hf:M.cT 1000) {Os:List Ob} (g:GS T L Os)
include h hf g
end
end Go.Abs.Tryz
namespace Go.Abs.Tryz
open Go Go.Abs
variable {O:Type}
set_option maxRecDepth 100000 in
def ah.bW (M:ah) (k c:Int):Prop:=M.met.r+M.met.w<=k/\M.count<=c
theorem dp.bW {Y:List Int} {M M':ah} {d a n k c:Int} (h:dp Y M M' d a n) (g:M.bW k c):M'.bW (k+d) (c+n):=⟨by have:=h.k;have:=g.1;omega,by have:=h.count;have:=g.2;omega⟩
theorem ah.bW.le {M:ah} {k c k' c':Int} (h:M.bW k c) (h1:k<=k') (h2:c<=c'):M.bW k' c':=⟨by have:=h.1;omega,by have:=h.2;omega⟩
theorem ah.bW.cT {M:ah} {k c d:Int} (h:M.bW k c) (jv:M.ok) (hk:k+d<85070591730234615865843651857942052864):M.cT d:=by
 have:=h.1
 obtain ⟨h1,h2⟩:=jv.met
 constructor<;>omega
theorem GS.snoc {T T':bn} {L L':aP} {Os:List Ob} {o:Ob} (g:GS T L Os) (h1:T.top<=T'.top) (h2:∀ a∈Os,a.lg=true->L'.ob a.at_=L.ob a.at_) (ho:o.lg=false->o.at_+o.n<=T'.top) (Wg:o.lg=true->∃ ws,L'.ob o.at_=some ws/\ws.length=o.n) (hap:∀ a∈Os,a.lg=o.lg->(if a.lg then a.at_≠o.at_ else a.at_+a.n<=o.at_)):GS T' L' (Os++[o]):=by
 refine ⟨fun a ha hl=>?_,fun a ha hl=>?_,fun i j a b pj hi hj hl=>?_⟩
 ·rcases List.mem_append.1 ha with ha |ha
  ·have:=g.sm a ha hl;omega
  ·simp at ha;subst ha;exact ho hl
 ·rcases List.mem_append.1 ha with ha |ha
  ·rw [h2 a ha hl];exact g.lg a ha hl
  ·simp at ha;subst ha;exact Wg hl
 ·by_cases I9:j<Os.length
  ·rw [List.getElem?_append_left I9] at hj
   rw [List.getElem?_append_left (by omega)] at hi
   exact g.ap i j a b pj hi hj hl
  ·have Ho:=(List.getElem?_eq_some_iff.1 hj).1
   simp at Ho
   have:j=Os.length:=by omega
   subst this
   rw [List.getElem?_append_left pj] at hi
   simp at hj
   subst hj
   exact hap a (List.mem_of_getElem? hi) hl
structure Mk (J:AH O) (sb nb lb pb mb:Nat) (M:ah) (S:ao) (w:List Int) (L:aP) (T:bn) (X:List Nat) (Os:List Ob):Prop where
 a:bq J sb nb lb pb mb M S w L T X []
 g:GS T L Os
 free:S.free=[]
 len:S.E.length<=Os.length
 room:S.room<=80
 bW:M.bW (30*(Os.length:Int)) (2+(Os.length:Int))
 small:T.small=6
 ws:T.ws.length=400
 top:T.top<=6*Os.length
 n:∀ o∈Os,1<=o.n/\o.n<=15
theorem F2 {S S':ao} (hf:S.free=[]) (hr:S.room<=80) (hl:S.E.length<=20) (ha:Alike S.dq.2 S'):S.more<=80/\S'.free=[]/\S'.E.length=S.E.length+1/\S'.room<=80:=by
 have e0:S.dq=(S.E.length,{S with room:=S.more,E:=S.E++[PE.fresh S.words],taken:=S.taken+1}):=by unfold ao.dq;rw [hf]
 have hm:S.more<=80:=by unfold ao.more;split<;>omega
 rw [e0] at ha
 refine ⟨hm,?_,?_,?_⟩
 ·rw [ha.free];exact hf
 ·rw [ha.len];simp
 ·rw [ha.room];exact hm
end Go.Abs.Tryz
namespace Go.Abs.Tryz
open Go Go.Abs
variable {O:Type}
theorem bq.bF {J J':AH O} {sb nb lb pb mb:Nat} {M:ah} {S:ao} {w:List Int} {L:aP} {T:bn} {X Z K:List Nat} {Y:List Int} (h:bq J sb nb lb pb mb M S w L T X Y) (hc:ei K J J') (hl:∀ b∈K,b∈X ∨ J.next<=b) (hZ:∀ b∈Z,b∈X ∨ (J.next<=b/\b<J'.next)):bq J' sb nb lb pb mb M S w L T Z Y:=by
 have hn:=h.SD
 have hs:=h.slt
 have k1:nb∉K:=fun hm=>by rcases hl _ hm with g |g;exact h.nd.2.1 g;omega
 have k2:sb∉K:=fun hm=>by rcases hl _ hm with g |g;exact h.nd.2.2 g;omega
 obtain ⟨e1,b1⟩:=h.n
 obtain ⟨e2,b2⟩:=h.s
 refine ⟨h.l.bF (K:=K) hc (fun b hb=>?_) (fun b hb=>?_),⟨e1,(hc.aa _ hn k1).trans b1⟩,⟨e2,(hc.aa _ hs k2).trans b2⟩,h.now,h.top,⟨h.nd.1,fun hm=>?_,fun hm=>?_⟩,h.oY⟩
 ·rcases hl b hb with g |g
  ·exact .inl (by simp [g])
  ·exact .inr g
 ·simp only [List.mem_cons] at hb ⊢
  rcases hb with rfl |rfl |hb
  ·exact .inl (.inl rfl)
  ·exact .inl (.inr (.inl rfl))
  ·rcases hZ b hb with g |g
   ·exact .inl (.inr (.inr g))
   ·exact .inr g
 ·rcases hZ _ hm with g |g;exact h.nd.2.1 g;omega
 ·rcases hZ _ hm with g |g;exact h.nd.2.2 g;omega
theorem Mk.bF {J J':AH O} {sb nb lb pb mb:Nat} {M:ah} {S:ao} {w:List Int} {L:aP} {T:bn} {X Z K:List Nat} {Os:List Ob} (m:Mk J sb nb lb pb mb M S w L T X Os) (hc:ei K J J') (hl:∀ b∈K,b∈X ∨ J.next<=b) (hZ:∀ b∈Z,b∈X ∨ (J.next<=b/\b<J'.next)):Mk J' sb nb lb pb mb M S w L T Z Os:={m with a:=m.a.bF hc hl hZ}
theorem Mk.new {J:AH O} {sb nb lb pb mb:Nat} {M:ah} {X:List Nat} (h:bq J sb nb lb pb mb M ⟨1,5,0,[],[],0⟩ [] ⟨[],[],0,0,0,fun _=>none⟩ ⟨0,List.replicate (400:Int).toNat 0,0,[.i .i64 0,.i .i64 0,.b false],6⟩ X []) (hc:M.count=2) (hr:M.met.r=0) (hw:M.met.w=0):Mk J sb nb lb pb mb M ⟨1,5,0,[],[],0⟩ [] ⟨[],[],0,0,0,fun _=>none⟩ ⟨0,List.replicate (400:Int).toNat 0,0,[.i .i64 0,.i .i64 0,.b false],6⟩ X []:=
 ⟨h,⟨fun o ho _=>(nomatch ho),fun o ho _=>(nomatch ho),fun i j a b _ hi _ _=>by simp at hi⟩,rfl,Nat.le_refl _,Nat.zero_le _,⟨by rw [hr,hw];decide,by rw [hc];decide⟩,rfl,List.length_replicate,Nat.zero_le _,fun o ho=>(nomatch ho)⟩
end Go.Abs.Tryz
namespace Go.Abs.Tryz
open Go Go.Abs
variable {O:Type}
def Tk (M M':ah) (n:Int):Prop:=M'.met.r+M'.met.w=M.met.r+M.met.w+n
theorem Tk.trans {M M' Gi:ah} {a b:Int} (h:Tk M M' a) (g:Tk M' Gi b):Tk M Gi (a+b):=by unfold Tk at *;omega
theorem Tk.refl (M:ah):Tk M M 0:=by unfold Tk;omega
theorem Tk.as {M M':ah} {a b:Int} (h:Tk M M' a) (e:a=b):Tk M M' b:=e▸h
def Ob.cost (o:Ob):Int:=if o.lg then 3 else 1
theorem Gq {h:Hd} (k:h.ok):yM h.word=h:=by
 have h1:=k.p;have h2:=k.r;have h3:=k.s;have h4:=k.g;have h5:=h.Su
 have e5:(h.word / 2 ^ 32 % 2 ^ 1 == 1)=h.l:=by
  simp only [Hd.word,Hd.w]
  cases hl:h.l with
  |true=>rw [show h.ln=1 by unfold Hd.ln;rw [hl];rfl];simp only [beq_iff_eq];omega
  |false=>rw [show h.ln=0 by unfold Hd.ln;rw [hl];rfl];rw [beq_eq_false_iff_ne];omega
 have e1:h.word / 2 ^ 0 % 2 ^ 12=h.p:=by simp only [Hd.word,Hd.w];omega
 have e2:h.word / 2 ^ 12 % 2 ^ 12=h.r:=by simp only [Hd.word,Hd.w];omega
 have e3:h.word / 2 ^ 24 % 2 ^ 5=h.s:=by simp only [Hd.word,Hd.w];omega
 have e4:h.word / 2 ^ 29 % 2 ^ 3=h.g:=by simp only [Hd.word,Hd.w];omega
 unfold yM
 rw [e1,e2,e3,e4,e5]
theorem kr (J:AH O) {h:Hd} (k:h.ok):Ok (Mb [.i .u64 (h.word:Int)] J) fun r=>r.1=.aB [.agg h.av,.i .i64 0]/\Ext J r.2:=by
 have:=Gh J (w:=h.word) (by have:=k.w;omega)
 rw [Gq k,if_pos rfl] at this
 exact this
section
variable {J:AH O} {sb nb lb pb mb:Nat} {M:ah} {S:ao} {w:List Int} {L:aP} {T:bn} {X:List Nat} {Y:List Int}
theorem AR (h:bK J lb pb mb M S w L X Y) (hf:M.cT 1000) {i:Nat} {ws:List Int} (ho:L.ob i=some ws) {at_:Int} (ha:0<=at_/\at_<ws.length):
  Ok (Yb [.p (some (.n lb,0)),.i .i64 ((i:Int)+1),.i .i64 at_] J) fun r=>r.1=.aB [.i .u64 (ws.getD at_.toNat 0),.i .i64 0]/\∃ M',bK r.2 lb pb mb M' S w L X Y/\dp Y M M' 3 0 0/\Tk M M' 3/\aw X J r.2:=by
 obtain ⟨el,hb⟩:=h.b
 simp only [aP.cells] at hb
 obtain ⟨e,sp,mk,he,gj,a1,a2,a3,a4,a5,a6,a7,a8,a9⟩:=h.at ho
 have hs:=tv h.p.mi.ok a7
 have hl:=h.p.mi.uO a7
 (unfold Yb qld;refine cw hb ?_)
 have g:=tz h hf ho he (k:=0) (by decide) a1
 rw [show ((0:Nat):Int)=0 from rfl] at g
 refine Ok.step g fun r ⟨g1,M1,g2,g3,g4⟩=>?_
 obtain ⟨q,J1⟩:=r
 simp only at g1 g2 g4
 subst g1
 have e0:((0:Int) != 0)=false:=rfl
 obtain ⟨Cm,cK⟩:=g2.b
 simp only [aP.cells] at cK
 refine gh e0 cK ?_
 have b1:=h.Gk hf g3 g2.p.mi.ok
 have Sv:M1.cT 998:=b1.cT (hf.less (by decide))
 have rd:=CY g2.p.mi (Sv.calm (by decide)) (id:=sp) (at_:=at_) (by omega)
 have Sy:ak M1.sp sp=some ws:=g3.qI h.p.now sp ws a8 a7
 rw [uU Sy,if_pos ha] at rd
 refine Ok.step rd fun r ⟨k1,k2,k3⟩=>?_
 obtain ⟨q,J2⟩:=r
 simp only at k1 k2 k3
 subst k1
 refine bZ ?_
 have g3r:=g3.r
 have g3w:=g3.w
 exact U.2 ⟨rfl,M1.rd 1,g2.re {g2.p with mi:=k2,b:=(k3.head).trans g2.p.b} (k3.tail).head fun y v _ hv=>hv,(b1.trans dp.rd).as (by decide) rfl rfl,by simp only [Tk,ah.rd];omega,g4.tail.trans k3.tail.tail⟩
theorem xv (h:bK J lb pb mb M S w L X Y) (hf:M.cT 1000) {i:Nat} {ws:List Int} (ho:L.ob i=some ws) {at_ x:Int} (ha:0<=at_/\at_<ws.length):
  Ok (Qw [.p (some (.n lb,0)),.i .i64 ((i:Int)+1),.i .i64 at_,.i .u64 x] J) fun r=>r.1=.i .i64 0/\∃ M',bK r.2 lb pb mb M' S w {L with ob:=fun j=>if j=i then some (ws.set at_.toNat x) else L.ob j} X Y/\dp Y M M' 3 0 0/\Tk M M' 3/\aw X J r.2:=by
 obtain ⟨el,hb⟩:=h.b
 simp only [aP.cells] at hb
 obtain ⟨e,sp,mk,he,gj,a1,a2,a3,a4,a5,a6,a7,a8,a9⟩:=h.at ho
 have hs:=tv h.p.mi.ok a7
 have hl:=h.p.mi.uO a7
 (unfold Qw qi5;refine cw hb ?_)
 have g:=tz h hf ho he (k:=0) (by decide) a1
 rw [show ((0:Nat):Int)=0 from rfl] at g
 refine Ok.step g fun r ⟨g1,M1,g2,g3,g4⟩=>?_
 obtain ⟨q,J1⟩:=r
 simp only at g1 g2 g4
 subst g1
 have e0:((0:Int) != 0)=false:=rfl
 obtain ⟨Cm,cK⟩:=g2.b
 simp only [aP.cells] at cK
 refine gh e0 cK ?_
 have b1:=h.Gk hf g3 g2.p.mi.ok
 have Sv:M1.cT 998:=b1.cT (hf.less (by decide))
 have wr:=tu g2.p.mi (Sv.calm (by decide)) (id:=sp) (at_:=at_) (x:=x) (by omega)
 have Sy:ak M1.sp sp=some ws:=g3.qI h.p.now sp ws a8 a7
 rw [na Sy,if_pos ha] at wr
 refine Ok.step wr fun r ⟨k1,k2,k3⟩=>?_
 obtain ⟨q,J2⟩:=r
 simp only at k1 k2 k3
 subst k1
 refine bZ ?_
 have UK:ak ((M1.wr 1).put sp.toNat (ws.set at_.toNat x)).sp sp=some (ws.set at_.toNat x):=by
  obtain ⟨h0,h1⟩:=aF Sy
  refine cU h0 ?_
  show (M1.sp.set sp.toNat _)[sp.toNat]? = _
  rw [List.getElem?_set];simp [(List.getElem?_eq_some_iff.1 h1).1]
 have g3r:=g3.r
 have g3w:=g3.w
 exact U.2 ⟨rfl,_,g2.wrote he ho a1 (by simp) UK (fun y hy=>cL hy hs.1) k2 k3,(b1.trans (dp.wrp hs.1 a9)).as (by decide) rfl rfl,by simp only [Tk,ah.wr,ah.put];omega,g4.tail.trans k3.tail.tail⟩
variable (h:bq J sb nb lb pb mb M S w L T X Y) (hf:M.cT 1000)
include h hf
def Ob.is (o:Ob) (T:bn) (L:aP):Prop:=if o.lg then ∃ ws,L.ob o.at_=some ws/\ws.length=o.n else o.at_+o.n<=T.top
omit h hf in
theorem GS.is {Os:List Ob} (g:GS T L Os) {o:Ob} (ho:o∈Os):o.is T L:=by
 unfold Ob.is
 cases hl:o.lg with
 |false=>exact g.sm o ho hl
 |true=>exact g.lg o ho hl
theorem En {o:Ob} (ho:o.is T L) {k:Nat} (hk:k<o.n):Ok (Nj [.p (some (.n sb,0)),.i .u64 o.ref,.i .i64 (k:Int)] J) fun r=>r.1=.aB [.i .u64 (Ht T L o k),.i .i64 0]/\∃ M',bq r.2 sb nb lb pb mb M' S w L T X Y/\dp Y M M' 3 0 0/\Tk M M' o.cost/\aw X J r.2:=by
 unfold Ob.ref Ht Ob.cost
 unfold Ob.is at ho
 obtain ⟨el,hs⟩:=h.s
 have Nk:=h.QA
 cases hl:o.lg with
 |false=>
  simp only [hl,Bool.false_eq_true,if_false] at ho ⊢
  have bp:o.at_<4194304:=by omega
  have e1:((1:Int) == 0)=false:=rfl
  have e2:((1:Int) == 1)=true:=rfl
  (unfold Nj qli;refine rl (jG J bp) (AP J bp) e1 e2 hs ?_)
  refine Ok.step (Kg h (hf.less (by decide)) (at_:=(o.at_:Int)+k) (by omega)) fun r ⟨g1,M',g2,g3,g5,g4⟩=>?_
  obtain ⟨q,J1⟩:=r
  simp only at g1 g2 g4
  subst g1
  refine bZ ?_
  exact U.2 ⟨by rw [show ((o.at_:Int)+k).toNat=o.at_+k by omega],M',g2,g3.as (by decide) rfl rfl,g5,g4⟩
 |true=>
  simp only [hl,if_true] at ho ⊢
  obtain ⟨ws,ho,hn⟩:=ho
  have bp:=h.vR ho
  have C4:=h.l.ol ho
  have e1:((2:Int) == 0)=false:=rfl
  have e2:((2:Int) == 1)=false:=rfl
  have e3:((2:Int) == 2)=true:=rfl
  simp (maxSteps:=2000000) -implicitDefEqProofs (disch:=(first |omega |rfl |assumption |(simp only [aO];first |omega |assumption))) only [Nj,qli,jF J bp,AQ J bp,e1,e2,e3,hs,Nat.reduceAdd,Nat.reduceMul,Nat.reduceLT,Int.reduceToNat,Int.reduceAdd,Int.reduceSub,Int.reduceMul,eA,gM]
  refine Ok.step (AR h.l hf ho (at_:=(k:Int)) (by omega)) fun r ⟨g1,M',g2,g3,g5,g4⟩=>?_
  obtain ⟨q,J1⟩:=r
  simp only at g1 g2 g4
  subst g1
  refine bZ ?_
  exact U.2 ⟨by rw [ho];rfl,M',h.fY g2 g3 g4,g3.mono fun y hy=>by simp [hy],g5,g4.tail.tail⟩
def cC (T:bn) (o:Ob) (k:Nat) (x:Int):bn:=if o.lg then T else {T with ws:=T.ws.set (o.at_+k) x}
def fO (L:aP) (o:Ob) (k:Nat) (x:Int):aP:=if o.lg then {L with ob:=fun j=>if j=o.at_ then some (((L.ob o.at_).getD []).set k x) else L.ob j} else L
theorem oS {o:Ob} (ho:o.is T L) {k:Nat} (hk:k<o.n) (x:Int):Ok (NL [.p (some (.n sb,0)),.i .u64 o.ref,.i .i64 (k:Int),.i .u64 x] J) fun r=>r.1=.i .i64 0/\∃ M',bq r.2 sb nb lb pb mb M' S w (fO L o k x) (cC T o k x) X Y/\dp Y M M' 3 0 0/\Tk M M' o.cost/\aw X J r.2:=by
 unfold Ob.ref Ob.cost fO cC
 unfold Ob.is at ho
 obtain ⟨el,hs⟩:=h.s
 have Nk:=h.QA
 cases hl:o.lg with
 |false=>
  simp only [hl,Bool.false_eq_true,if_false] at ho ⊢
  have bp:o.at_<4194304:=by omega
  have e1:((1:Int) == 0)=false:=rfl
  have e2:((1:Int) == 1)=true:=rfl
  (unfold NL ql8;refine rl (jG J bp) (AP J bp) e1 e2 hs ?_)
  refine Ok.step (rO h (hf.less (by decide)) (at_:=(o.at_:Int)+k) (x:=x) (by omega)) fun r ⟨g1,M',g2,g3,g5,g4⟩=>?_
  obtain ⟨q,J1⟩:=r
  simp only at g1 g2 g4
  subst g1
  refine bZ ?_
  rw [show ((o.at_:Int)+k).toNat=o.at_+k by omega] at g2
  exact U.2 ⟨rfl,M',g2,g3.as (by decide) rfl rfl,g5,g4⟩
 |true=>
  simp only [hl,if_true] at ho ⊢
  obtain ⟨ws,ho,hn⟩:=ho
  have bp:=h.vR ho
  have C4:=h.l.ol ho
  have e1:((2:Int) == 0)=false:=rfl
  have e2:((2:Int) == 1)=false:=rfl
  have e3:((2:Int) == 2)=true:=rfl
  simp (maxSteps:=2000000) -implicitDefEqProofs (disch:=(first |omega |rfl |assumption |(simp only [aO];first |omega |assumption))) only [NL,ql8,jF J bp,AQ J bp,e1,e2,e3,hs,Nat.reduceAdd,Nat.reduceMul,Nat.reduceLT,Int.reduceToNat,Int.reduceAdd,Int.reduceSub,Int.reduceMul,eA,gM]
  refine Ok.step (xv h.l hf ho (at_:=(k:Int)) (x:=x) (by omega)) fun r ⟨g1,M',g2,g3,g5,g4⟩=>?_
  obtain ⟨q,J1⟩:=r
  simp only at g1 g2 g4
  subst g1
  refine bZ ?_
  rw [Int.toNat_natCast] at g2
  exact U.2 ⟨rfl,M',by rw [ho];exact h.fY g2 g3 g4,g3.mono fun y hy=>by simp [hy],g5,g4.tail.tail⟩
structure Ob.has (o:Ob) (T:bn) (L:aP) (hd:Hd):Prop where
 is:o.is T L
 n:o.n=1+hd.p+hd.r
 w:Ht T L o 0=(hd.word:Int)
 ok:hd.ok
omit h hf in
theorem bq.fill {J':AH O} {a:Nat} (h:bq J sb nb lb pb mb M S w L T (a::X) Y) (hn:J.next<=J'.next) (hb:∀ b,b<J.next->b≠a->J'.aa b=J.aa b):bq J' sb nb lb pb mb M S w L T (a::X) Y:=h.bF (K:=[a]) ⟨hn,fun b h1 h2=>hb b h1 (by simpa using h2)⟩ (fun b hb=>.inl (by simp at hb;simp [hb])) (fun b hb=>.inl hb)
omit h hf in
theorem bq.drop {a:Nat} (h:bq J sb nb lb pb mb M S w L T (a::X) Y):bq J sb nb lb pb mb M S w L T X Y:=h.bF (K:=[]) ⟨Nat.le_refl _,fun _ _ _=>rfl⟩ (fun b hb=>by simp at hb) (fun b hb=>.inl (by simp [hb]))
omit hf in
theorem bq.box:bq (J.az 1) sb nb lb pb mb M S w L T (J.next::X) Y:=h.bF (K:=[]) ⟨by simp,fun b hb _=>rfl⟩ (by simp) (fun b hb=>by
 rcases List.mem_cons.1 hb with rfl |hb
 ·exact .inr ⟨Nat.le_refl _,by simp⟩
 ·exact .inl hb)
theorem uY {o:Ob} {hd:Hd} (ho:o.has T L hd):Ok (Yc [.p (some (.n sb,0)),.i .u64 o.ref] J) fun r=>r.1=.aB [.agg hd.av,.i .i64 0]/\∃ M',bq r.2 sb nb lb pb mb M' S w L T X Y/\dp Y M M' 3 0 0/\Tk M M' o.cost/\aw X J r.2:=by
 have hn:=ho.n
 have bp:=h.lt
 have e0:((0:Int) != 0)=false:=rfl
 (unfold Yc qly;refine bZ ?_)
 have hb:bq ((J.az 1).put J.next (.cells true 39 [.i .i64 0,.i .i64 0,.i .i64 0,.i .i64 0,.b false])) sb nb lb pb mb M S w L T (J.next::X) Y:=h.box.fill (by simp) (fun b h1 h2=>by exact hU)
 refine Ok.step (En hb hf ho.is (k:=0) (by omega)) fun r ⟨g1,M',g2,g3,g5,g4⟩=>?_
 obtain ⟨q,J1⟩:=r
 rw [ho.w] at g1
 simp only at g1 g2 g4
 subst g1
 have n1:=g4.next
 simp only [aO] at n1
 have b1:J1.aa J.next=some (.cells true 39 [.i .i64 0,.i .i64 0,.i .i64 0,.i .i64 0,.b false]):=(g4.aa _ (by simp)).trans aH
 refine cw e0 ?_
 refine Ok.step (kr J1 ho.ok) fun r ⟨k1,k2⟩=>?_
 obtain ⟨q,J2⟩:=r
 simp only at k1 k2
 subst k1
 have b2:=(k2.aa _ (by omega)).trans b1
 (unfold Hd.av;refine cw b2 ?_)
 have n2:=k2.next
 exact U.2 ⟨rfl,M',((g2.ext k2).fill (by simp) (fun b h1 h2=>by exact hU)).drop,g3,g5,⟨by simp;omega,fun b hb=>by
  have:=bp b hb
  have k3:=k2.aa b (by omega)
  have k4:=g4.aa b (by simp [hb])
  ((try simp only [aO] at *);simp -implicitDefEqProofs (disch:=(first |omega |rfl |assumption |(simp only [aO];first |omega |assumption))) only [aH,aA,bA,au])
  rw [k3,k4]
  exact hU⟩⟩
omit h hf in
theorem xw (J:AH O) {p r:Nat} (hp:p<4096) (hr:r<4096):Ok (SG [.agg [.i .i64 (p:Int),.i .i64 (r:Int)]] J) fun q=>q.1=.b true/\Ext J q.2:=by
 have hc:gk p r 0 0=0:=by unfold gk;rw [if_neg (by omega),if_neg (by omega),if_neg (by omega)]
 (unfold SG qcy;refine bZ ?_)
 refine Ok.step (uT _ (p:Int) (r:Int) 0 0 false) fun q ⟨g1,g2⟩=>?_
 obtain ⟨q,J1⟩:=q
 simp only at g1 g2
 rw [hc] at g1
 subst g1
 refine bZ ?_
 exact U.2 ⟨rfl,(cN (by (have x0:=(g2).next);(try simp only [aO] at *);omega) (fun b hb=>by (have x0:=(g2).next);(try simp only [aO] at *);simp -implicitDefEqProofs (disch:=(first |omega |rfl |assumption |(simp only [aO];first |omega |assumption))) only [aA,bA,au,cB (g2)]))⟩
omit h hf in
theorem Kh (J:AH O) {p r:Nat} (hp:p<4096) (hr:r<4096) (k:Int):Ok (qsc [.agg [.i .i64 (p:Int),.i .i64 (r:Int)],.i .i64 k] J) fun q=>q.1=(if 0<=k/\k<p then .aB [.i .i64 (1+k),.i .i64 0] else .aB [.i .i64 0,.i .i64 32])/\Ext J q.2:=by
 (unfold qsc qsb;refine bZ ?_)
 refine Ok.step (xw _ hp hr) fun q ⟨g1,g2⟩=>?_
 obtain ⟨q,J1⟩:=q
 simp only at g1 g2
 subst g1
 have cK:J1.aa J.next=some (.cells true WY [.i .i64 (p:Int),.i .i64 (r:Int)]):=(g2.aa _ (by simp)).trans (by exact hU)
 by_cases h1:k<0
 ·rw [if_neg (by omega)]
  refine cw cK ?_
  exact U.2 ⟨rfl,(cN (by (have x0:=(g2).next);(try simp only [aO] at *);omega) (fun b hb=>by (have x0:=(g2).next);(try simp only [aO] at *);simp -implicitDefEqProofs (disch:=(first |omega |rfl |assumption |(simp only [aO];first |omega |assumption))) only [aA,bA,au,cB (g2)]))⟩
 ·by_cases h2:k<p
  ·rw [if_pos (by omega)]
   refine gh cK @ge_iff_le.{0} ?_
   exact U.2 ⟨rfl,(cN (by (have x0:=(g2).next);(try simp only [aO] at *);omega) (fun b hb=>by (have x0:=(g2).next);(try simp only [aO] at *);simp -implicitDefEqProofs (disch:=(first |omega |rfl |assumption |(simp only [aO];first |omega |assumption))) only [aA,bA,au,cB (g2)]))⟩
  ·rw [if_neg (by omega)]
   refine gh cK @ge_iff_le.{0} ?_
   exact U.2 ⟨rfl,(cN (by (have x0:=(g2).next);(try simp only [aO] at *);omega) (fun b hb=>by (have x0:=(g2).next);(try simp only [aO] at *);simp -implicitDefEqProofs (disch:=(first |omega |rfl |assumption |(simp only [aO];first |omega |assumption))) only [aA,bA,au,cB (g2)]))⟩
omit h hf in
theorem Ki (J:AH O) {p r:Nat} (hp:p<4096) (hr:r<4096) (k:Int):Ok (ql4 [.agg [.i .i64 (p:Int),.i .i64 (r:Int)],.i .i64 k] J) fun q=>q.1=(if 0<=k/\k<r then .aB [.i .i64 (1+p+k),.i .i64 0] else .aB [.i .i64 0,.i .i64 32])/\Ext J q.2:=by
 (unfold ql4 ql3;refine bZ ?_)
 refine Ok.step (xw _ hp hr) fun q ⟨g1,g2⟩=>?_
 obtain ⟨q,J1⟩:=q
 simp only at g1 g2
 subst g1
 have cK:J1.aa J.next=some (.cells true WY [.i .i64 (p:Int),.i .i64 (r:Int)]):=(g2.aa _ (by simp)).trans (by exact hU)
 by_cases h1:k<0
 ·rw [if_neg (by omega)]
  refine cw cK ?_
  exact U.2 ⟨rfl,(cN (by (have x0:=(g2).next);(try simp only [aO] at *);omega) (fun b hb=>by (have x0:=(g2).next);(try simp only [aO] at *);simp -implicitDefEqProofs (disch:=(first |omega |rfl |assumption |(simp only [aO];first |omega |assumption))) only [aA,bA,au,cB (g2)]))⟩
 ·by_cases h2:k<r
  ·rw [if_pos (by omega)]
   refine gh cK @ge_iff_le.{0} ?_
   exact U.2 ⟨rfl,(cN (by (have x0:=(g2).next);(try simp only [aO] at *);omega) (fun b hb=>by (have x0:=(g2).next);(try simp only [aO] at *);simp -implicitDefEqProofs (disch:=(first |omega |rfl |assumption |(simp only [aO];first |omega |assumption))) only [aA,bA,au,cB (g2)]))⟩
  ·rw [if_neg (by omega)]
   refine gh cK @ge_iff_le.{0} ?_
   exact U.2 ⟨rfl,(cN (by (have x0:=(g2).next);(try simp only [aO] at *);omega) (fun b hb=>by (have x0:=(g2).next);(try simp only [aO] at *);simp -implicitDefEqProofs (disch:=(first |omega |rfl |assumption |(simp only [aO];first |omega |assumption))) only [aA,bA,au,cB (g2)]))⟩
omit hf in
theorem CL (hf:M.cT 2000) {o:Ob} {hd:Hd} (ho:o.has T L hd) (k x:Int):Ok (Qi [.p (some (.n sb,0)),.i .u64 o.ref,.i .i64 k,.i .u64 x] J) fun r=>r.1=.i .i64 (if 0<=k/\k<hd.r then 0 else 32)/\∃ M',bq r.2 sb nb lb pb mb M' S w (if 0<=k/\k<hd.r then fO L o (1+hd.p+k.toNat) x else L) (if 0<=k/\k<hd.r then cC T o (1+hd.p+k.toNat) x else T) X Y/\dp Y M M' 6 0 0/\Tk M M' (if 0<=k/\k<hd.r then o.cost+o.cost else o.cost)/\aw X J r.2:=by
 have bp:=h.lt
 have hn:=ho.n
 (unfold Qi qmd;refine bZ ?_)
 refine Ok.step (uY h.box (hf.less (by decide)) ho) fun r ⟨g1,M1,g2,g3,g5,g4⟩=>?_
 obtain ⟨q,J1⟩:=r
 simp only at g1 g2 g4
 subst g1
 have e0:((0:Int) != 0)=false:=rfl
 have e1:((32:Int) != 0)=true:=rfl
 have n1:=g4.next
 simp only [aO] at n1
 (unfold Hd.av;refine cw e0 ?_)
 refine Ok.step (Ki _ ho.ok.p ho.ok.r k) fun r ⟨k1,k2⟩=>?_
 obtain ⟨q,J2⟩:=r
 simp only at k1 k2
 have n2:=k2.next
 simp only [aO] at n2
 have e2:∀ b,b<J1.next->b≠J.next->J2.aa b=J1.aa b:=fun b hb hm=>(k2.aa b (by simp only [aO];omega)).trans (by exact hU)
 have h2:=g2.fill n2 e2
 have kp:aw X J J2:=⟨by omega,fun b hb=>by have:=bp b hb;rw [e2 b (by omega) (by omega),g4.aa b (by simp [hb])];rfl⟩
 by_cases hk:0<=k/\k<hd.r
 ·simp only [if_pos hk] at k1 ⊢
  subst k1
  obtain ⟨m,rfl⟩:=Int.eq_ofNat_of_zero_le hk.1
  refine cw e0 ?_
  have hw:=oS h2 (g3.cT (hf.less (by decide)):M1.cT 1000) ho.is (k:=1+hd.p+m) (by omega) x
  rw [Int.natCast_add,Int.natCast_add] at hw
  refine Ok.step hw fun r ⟨j1,M2,j2,j3,j5,j4⟩=>?_
  obtain ⟨q,J3⟩:=r
  simp only at j1 j2 j4
  subst j1
  refine bZ ?_
  exact U.2 ⟨rfl,M2,j2.drop,(g3.trans j3).as (by decide) rfl rfl,g5.trans j5,kp.trans j4.tail⟩
 ·simp only [if_neg hk] at k1 ⊢
  subst k1
  refine cw e1 ?_
  exact U.2 ⟨rfl,M1,h2.drop,g3.as (by decide) rfl rfl,g5,kp⟩
omit hf in
theorem uL (hf:M.cT 2000) {o:Ob} {hd:Hd} (ho:o.has T L hd) (k x:Int) {kd:Int} (hkd:∀ J:AH O,BE [.i .u64 x] J=some (.i .i64 kd,J)) (aio:kd≠3):Ok (R8 [.p (some (.n sb,0)),.i .u64 o.ref,.i .i64 k,.i .u64 x] J) fun r=>r.1=.i .i64 (if 0<=k/\k<hd.p then 0 else 32)/\∃ M',bq r.2 sb nb lb pb mb M' S w (if 0<=k/\k<hd.p then fO L o (1+k.toNat) x else L) (if 0<=k/\k<hd.p then cC T o (1+k.toNat) x else T) X Y/\dp Y M M' 6 0 0/\Tk M M' (if 0<=k/\k<hd.p then o.cost+o.cost else o.cost)/\aw X J r.2:=by
 have bp:=h.lt
 have hn:=ho.n
 have e3:(kd == 3)=false:=by simp;exact aio
 (unfold R8 qsg;refine bZ ?_)
 refine Ok.step (uY h.box (hf.less (by decide)) ho) fun r ⟨g1,M1,g2,g3,g5,g4⟩=>?_
 obtain ⟨q,J1⟩:=r
 simp only at g1 g2 g4
 subst g1
 have e0:((0:Int) != 0)=false:=rfl
 have e1:((32:Int) != 0)=true:=rfl
 have n1:=g4.next
 simp only [aO] at n1
 (unfold Hd.av;refine cw e0 ?_)
 refine Ok.step (Kh _ ho.ok.p ho.ok.r k) fun r ⟨k1,k2⟩=>?_
 obtain ⟨q,J2⟩:=r
 simp only at k1 k2
 have n2:=k2.next
 simp only [aO] at n2
 have e2:∀ b,b<J1.next->b≠J.next->J2.aa b=J1.aa b:=fun b hb hm=>(k2.aa b (by simp only [aO];omega)).trans (by exact hU)
 have h2:=g2.fill n2 e2
 have kp:aw X J J2:=⟨by omega,fun b hb=>by have:=bp b hb;rw [e2 b (by omega) (by omega),g4.aa b (by simp [hb])];rfl⟩
 by_cases hk:0<=k/\k<hd.p
 ·simp only [if_pos hk] at k1 ⊢
  subst k1
  obtain ⟨m,rfl⟩:=Int.eq_ofNat_of_zero_le hk.1
  simp (maxSteps:=2000000) -implicitDefEqProofs (disch:=(first |omega |rfl |assumption |(simp only [aO];first |omega |assumption))) only [e0,hkd,e3,Nat.reduceAdd,Nat.reduceMul,Nat.reduceLT,Int.reduceToNat,Int.reduceAdd,Int.reduceSub,Int.reduceMul,eA,gM]
  have hw:=oS h2 (g3.cT (hf.less (by decide)):M1.cT 1000) ho.is (k:=1+m) (by omega) x
  rw [Int.natCast_add] at hw
  refine Ok.step hw fun r ⟨j1,M2,j2,j3,j5,j4⟩=>?_
  obtain ⟨q,J3⟩:=r
  simp only at j1 j2 j4
  subst j1
  refine bZ ?_
  exact U.2 ⟨rfl,M2,j2.drop,(g3.trans j3).as (by decide) rfl rfl,g5.trans j5,kp.trans j4.tail⟩
 ·simp only [if_neg hk] at k1 ⊢
  subst k1
  refine cw e1 ?_
  exact U.2 ⟨rfl,M1,h2.drop,g3.as (by decide) rfl rfl,g5,kp⟩
end
end Go.Abs.Tryz
namespace Go.Abs.Tryz
open Go Go.Abs
variable {O:Type}
def Hd.aI (h:Hd):Hd:={h with g:=min (h.g+1) 7}
theorem Hd.ok.aI {h:Hd} (k:h.ok):h.aI.ok:=⟨k.p,k.r,k.s,by show min (h.g+1) 7<8;omega⟩
theorem AS (J:AH O) {h:Hd} (k:h.ok):Ok (Yd [.i .u64 (h.word:Int)] J) fun r=>r.1=.aB [.i .u64 (h.aI.word:Int),.i .i64 0]/\Ext J r.2:=by
 have z0:((0:Int) != 0)=false:=rfl
 have h4:=k.g
 (unfold Yd qo3;refine bZ ?_)
 refine Ok.step (kr _ k) fun q ⟨q1,q2⟩=>?_
 obtain ⟨q,J1⟩:=q
 simp only at q1 q2
 subst q1
 have nx:=q2.next
 simp only [aO] at nx
 have pk:=fun J:AH O=>qa J k.aI
 simp only [Hd.av,Hd.aI] at pk ⊢
 refine cw z0 ?_
 have e:(if 7<(h.g:Int)+1 then (7:Int) else (h.g:Int)+1)=((min (h.g+1) 7:Nat):Int):=by split<;>omega
 rw [e]
 refine Ok.step (pk _) fun q ⟨q3,q4⟩=>?_
 obtain ⟨q,J2⟩:=q
 simp only at q3 q4
 subst q3
 refine bZ ?_
 refine U.2 ⟨rfl,?_⟩
 exact (cN (by (have x0:=(q2).next);(have x1:=(q4).next);(try simp only [aO] at *);omega) (fun b hb=>by (have x0:=(q2).next);(have x1:=(q4).next);(try simp only [aO] at *);simp -implicitDefEqProofs (disch:=(first |omega |rfl |assumption |(simp only [aO];first |omega |assumption))) only [aA,bA,au,cB (q2),cB (q4)]))
def fwd (at_:Nat):Int:=((9223372036854775808+at_:Nat):Int)
theorem air {n:Nat} (h:n<2 ^ 63):bG .or .u64 9223372036854775808 (n:Int)=((9223372036854775808+n:Nat):Int):=by
 show IntKind.u64.wrap (((BitVec.ofInt 64 9223372036854775808 ||| BitVec.ofInt 64 (n:Int)).toNat:Nat):Int)=_
 rw [BitVec.toNat_or,eK (by decide) (by decide),eK (by omega) (by omega),Int.toNat_natCast]
 have:=Nat.two_pow_add_eq_or_of_lt (i:=63) (b:=n) h 1
 rw [show (9223372036854775808:Int).toNat=2 ^ 63*1 from rfl,<-this]
 exact mA (by omega)
theorem oT (J:AH O) {at_:Nat} (h:at_<4194304):SH [.i .i64 (at_:Int)] J=some (.aB [.i .u64 (fwd at_),.i .i64 0],J):=by
 have w1:=jj J (at_:Int) 4194303
 rw [decide_eq_true (by omega)] at w1
 (unfold SH qoj;refine gh w1 @Bool.not_true ?_)
 rw [air (by omega)];rfl
theorem C5 (J:AH O) {at_:Int} (h:¬ (0<=at_/\at_<4194304)):SH [.i .i64 at_] J=some (.aB [.i .u64 0,.i .i64 2],J):=by
 have w1:=jj J at_ 4194303
 rw [decide_eq_false (by omega)] at w1
 (unfold SH qoj;exact UC w1 @Bool.not_false)
theorem nV (J:AH O) {at_:Nat} (h:at_<4194304):Ok (SI [.i .u64 (fwd at_)] J) fun r=>r.1=.aB [.i .i64 (at_:Int),.b true]/\Ext J r.2:=by
 have z0:((0:Int) == 0)=true:=rfl
 have t1:(false == false)=true:=rfl
 (unfold SI qoo qof qoe;refine bZ ?_)
 refine Ok.step (yL (w:=9223372036854775808+at_) (a:=0) (s:=40) _ (by omega) (by omega) (by omega)) fun q ⟨q1,q2⟩=>?_
 obtain ⟨q,J1⟩:=q
 simp only at q1 q2
 rw [show (9223372036854775808+at_) / 2 ^ 0 % 2 ^ 40=at_ by omega] at q1
 subst q1
 have f:=oT J1 h
 have bb:(fwd at_ == fwd at_)=true:=by simp
 simp (maxSteps:=2000000) -implicitDefEqProofs (disch:=(first |omega |rfl |assumption |(simp only [aO];first |omega |assumption))) only [f,bne,z0,t1,bb,Nat.reduceAdd,Nat.reduceMul,Nat.reduceLT,Int.reduceToNat,Int.reduceAdd,Int.reduceSub,Int.reduceMul,eA,gM]
 exact U.2 ⟨rfl,(cN (by (have x0:=(q2).next);(try simp only [aO] at *);omega) (fun b hb=>by (have x0:=(q2).next);(try simp only [aO] at *);simp -implicitDefEqProofs (disch:=(first |omega |rfl |assumption |(simp only [aO];first |omega |assumption))) only [aA,bA,au,cB (q2)]))⟩
theorem qd (J:AH O) {w:Nat} (h:w<2 ^ 63):Ok (SI [.i .u64 (w:Int)] J) fun r=>r.1=.aB [.i .i64 0,.b false]/\Ext J r.2:=by
 have z0:((0:Int) == 0)=true:=rfl
 have z2:((2:Int) == 0)=false:=rfl
 have t1:(false == false)=true:=rfl
 have t2:(true == false)=false:=rfl
 (unfold SI qoo qof qoe;refine bZ ?_)
 refine Ok.step (yL (w:=w) (a:=0) (s:=40) _ (by omega) (by omega) (by omega)) fun q ⟨q1,q2⟩=>?_
 obtain ⟨q,J1⟩:=q
 simp only at q1 q2
 subst q1
 obtain ⟨x,hx⟩:∃ x,x=w / 2 ^ 0 % 2 ^ 40:=⟨_,rfl⟩
 rw [<-hx]
 have xl:x<2 ^ 40:=by omega
 by_cases c:x<4194304
 ·have f:=oT J1 c
  have bb:(fwd x == (w:Int))=false:=Eh (by unfold fwd;omega)
  simp (maxSteps:=2000000) -implicitDefEqProofs (disch:=(first |omega |rfl |assumption |(simp only [aO];first |omega |assumption))) only [f,bne,z0,t1,bb,Nat.reduceAdd,Nat.reduceMul,Nat.reduceLT,Int.reduceToNat,Int.reduceAdd,Int.reduceSub,Int.reduceMul,eA,gM]
  exact U.2 ⟨rfl,(cN (by (have x0:=(q2).next);(try simp only [aO] at *);omega) (fun b hb=>by (have x0:=(q2).next);(try simp only [aO] at *);simp -implicitDefEqProofs (disch:=(first |omega |rfl |assumption |(simp only [aO];first |omega |assumption))) only [aA,bA,au,cB (q2)]))⟩
 ·have f:=C5 J1 (at_:=(x:Int)) (by omega)
  simp (maxSteps:=2000000) -implicitDefEqProofs (disch:=(first |omega |rfl |assumption |(simp only [aO];first |omega |assumption))) only [f,bne,z2,t2,Nat.reduceAdd,Nat.reduceMul,Nat.reduceLT,Int.reduceToNat,Int.reduceAdd,Int.reduceSub,Int.reduceMul,eA,gM]
  exact U.2 ⟨rfl,(cN (by (have x0:=(q2).next);(try simp only [aO] at *);omega) (fun b hb=>by (have x0:=(q2).next);(try simp only [aO] at *);simp -implicitDefEqProofs (disch:=(first |omega |rfl |assumption |(simp only [aO];first |omega |assumption))) only [aA,bA,au,cB (q2)]))⟩
end Go.Abs.Tryz
