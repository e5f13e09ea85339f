/-
  A store that turns: its near space has an old one beside it. No conditions.
-/
import Derived.Test.YtncohicmiihjiaaGreatM16
import Derived.Test.YtncohicmiihjiaaGreatM15
set_option linter.unusedVariables false
set_option linter.unusedSimpArgs false
set_option linter.constructorNameAsVariable false
set_option linter.unusedSimpArgs false
set_option linter.unusedVariables false
set_option linter.unusedSectionVars false
set_option maxHeartbeats 2000000
namespace Go.Abs.Tryz
open Go Go.Abs
variable {O:Type}
theorem fQ.Ko {M M':ah} {V:Nat->Option (Int × Int × Int)} {oO:Int} {ob:Nat->Option (List Int)} {ep:Int} {H:List Nat} {Z:List Int} {id:Int} (h:fQ M V oO ob ep H Z) (hz:id∈Z) (hw:∀ y v,y≠id->ak M.sp y=some v->ak M'.sp y=some v) (jT:ak M'.sp id≠none):fQ M' V oO ob ep H Z:=
 ⟨h.Gj,fun i ws ho=>by
  obtain ⟨sp,mk,a1,a2,a3,a4,a5,a6,a7⟩:=h.at_ i ws ho
  exact ⟨sp,mk,a1,a2,a3,a4,hw sp ws (fun e=>a7 (by rw [e];exact hz)) a5,a6,a7⟩,h.apart,fun y hy=>⟨by
  by_cases e:y=id
  ·rw [e];exact jT
  ·obtain ⟨g1,g2⟩:=h.others y hy
   cases hv:ak M.sp y with
   |none=>exact absurd hv g1
   |some v=>rw [hw y v e hv];simp,(h.others y hy).2⟩⟩
theorem yS (J:AH O) (id top at_ n:Int) (h0:0<=top/\top<=4194304) (h1:0<=at_) (h2:0<=n) (h3:at_+n<=top):Ok (Mc [.agg [.i .i64 id,.i .i64 top],.i .i64 at_,.i .i64 n] J) fun r=>r.1=.b true/\Ext J r.2:=by
 have d1:=decide_eq_true h2
 have d2:=decide_eq_true h1
 have d3:=decide_eq_true (show at_<=top by omega)
 have d4:=decide_eq_true (show n<=top - at_ by omega)
 (unfold Mc U9;refine rl @ge_iff_le.{0} d1 d2 d3 d4 ?_)
 exact U.2 ⟨rfl,rj⟩
theorem SK {J:AH O} {mb:Nat} {M:ah} {X:List Nat} (h:bu J mb M X) (hc:M.calm) {fr at_ to de n:Int} (ha : -9223372036854775808<=at_/\at_<=9223372036854775807) (hd : -9223372036854775808<=de/\de<=9223372036854775807):
  Ok (HB [.p (some (.n mb,0)),.i .i64 fr,.i .i64 at_,.i .i64 to,.i .i64 de,.i .i64 n] J) fun r=>r.1=.i .i64 (M.qf fr at_ to de n).2/\bu r.2 mb (M.qf fr at_ to de n).1 X/\aw X J r.2:=by
 have key:∀ F,bI J mb F M->Ok (HB [.p (some (.n mb,0)),.i .i64 fr,.i .i64 at_,.i .i64 to,.i .i64 de,.i .i64 n] J) fun r=>r.1=.i .i64 (M.qf fr at_ to de n).2/\eM J mb F (M.qf fr at_ to de n).1 r.2:=fun F hF=>Yh hF h.ok hc ha hd
 have hh:=h
 obtain ⟨F,g1,_⟩:=hh
 obtain ⟨r,e,p1,_⟩:=key F g1
 refine ⟨r,e,p1,?_⟩
 exact h.behind (F:=F) (J':=r.2) fun F hF=>by
  obtain ⟨r',e',_,b⟩:=key F hF
  rw [e] at e';cases e';exact b
structure fg (J:AH O) (sb nb lb pb mb:Nat) (M:ah) (S:ao) (w:List Int) (L:aP) (T:bn) (X:List Nat) (Y:List Int) (aW:Int) (v:List Int) (ot:Nat):Prop where
 s:bq J sb nb lb pb mb M S w L T X (aW::Y)
 cO:T.cO=[.i .i64 aW,.i .i64 (ot:Int),.b true]
 w:ak M.sp aW=some v
 top:ot<=v.length
section
variable {J:AH O} {sb nb lb pb mb:Nat} {M:ah} {S:ao} {w:List Int} {L:aP} {T:bn} {X:List Nat} {Y:List Int} {aW:Int} {v:List Int} {ot:Nat} (h:fg J sb nb lb pb mb M S w L T X Y aW v ot)
include h
theorem fg.ext {J':AH O} (e:Ext J J'):fg J' sb nb lb pb mb M S w L T X Y aW v ot:=⟨h.s.ext e,h.cO,h.w,h.top⟩
theorem fg.vl:v.length<=4194304:=h.s.l.p.mi.uO h.w
theorem fg.ne:T.id≠aW:=fun e=>h.s.oY (by simp [e])
theorem fg.n:∃ el,J.aa nb=some (.cells true el [.p (some (.n mb,0)),.i .i64 T.id,.i .i64 (T.top:Int),.i .i64 aW,.i .i64 (ot:Int),.b true]):=by
 obtain ⟨el,hb⟩:=h.s.n
 exact ⟨el,by rw [hb];simp only [bn.yQ,h.cO]⟩
theorem fg.QD {J':AH O} {M':ah} {v':List Int} (hi:bu J' mb M' (pb::lb::nb::sb::X)) (kp:aw (pb::lb::nb::sb::X) J J') (hw:∀ y u,y≠aW->ak M.sp y=some u->ak M'.sp y=some u) (hn:ak M'.sp aW=some v') (hl:v'.length=v.length):fg J' sb nb lb pb mb M' S w L T X Y aW v' ot:=by
 have db:S.id≠aW:=(h.s.l.o.others aW (by simp)).2.symm
 obtain ⟨el,hb⟩:=h.s.l.b
 obtain ⟨vQ,fv⟩:=h.s.n
 obtain ⟨Hz,mz⟩:=h.s.s
 exact ⟨{l:={h.s.l with p:={h.s.l.p with mi:=hi,b:=(kp.aa _ (by simp)).trans h.s.l.p.b,now:=hw _ _ db h.s.l.p.now},b:=⟨el,(kp.aa _ (by simp)).trans hb⟩,o:=h.s.l.o.Ko (by simp) hw (by rw [hn];simp)},n:=⟨vQ,(kp.aa _ (by simp)).trans fv⟩,s:=⟨Hz,(kp.aa _ (by simp)).trans mz⟩,now:=hw _ _ h.ne h.s.now,top:=h.s.top,nd:=h.s.nd,oY:=h.s.oY},h.cO,hn,by rw [hl];exact h.top⟩
theorem uZ {at_ n:Int} (h1:0<=at_) (h2:0<=n) (h3:at_+n<=ot):Ok (Vb [.p (some (.n nb,0)),.i .i64 at_,.i .i64 n] J) fun r=>r.1=.i .i64 0/\Ext J r.2:=by
 obtain ⟨el,hb⟩:=h.n
 have hv:=h.vl
 have ht:=h.top
 (unfold Vb qn4;refine gh hb @Bool.not_true ?_)
 refine Ok.step (yS J aW ot at_ n (by omega) h1 h2 h3) fun r ⟨g1,g2⟩=>?_
 obtain ⟨q,J1⟩:=r
 simp only at g1 g2
 subst g1
 refine cw @Bool.not_true ?_
 exact U.2 ⟨rfl,g2⟩
variable (hf:M.cT 100)
include hf
theorem mH {at_:Nat} (ha:at_<ot):Ok (Yi [.p (some (.n nb,0)),.i .i64 (at_:Int)] J) fun r=>r.1=.aB [.i .u64 (v.getD at_ 0),.i .i64 0]/\∃ M',fg r.2 sb nb lb pb mb M' S w L T X Y aW v ot/\dp Y M M' 1 0 0/\Tk M M' 1/\aw X J r.2:=by
 obtain ⟨el,hb⟩:=h.n
 have hv:=h.vl
 have ht:=h.top
 have z0:((0:Int) == 0)=true:=rfl
 (unfold Yi qn9;refine bZ ?_)
 refine Ok.step (uZ h (at_:=(at_:Int)) (n:=1) (by omega) (by omega) (by omega)) fun r ⟨g1,g2⟩=>?_
 obtain ⟨q,J1⟩:=r
 simp only at g1 g2
 subst g1
 have h1:=h.ext g2
 have cK:=(g2.aa _ h.s.SD).trans hb
 simp (maxSteps:=2000000) -implicitDefEqProofs (disch:=(first |omega |rfl |assumption |(simp only [aO];first |omega |assumption))) only [cK,bne,z0,Bool.not_true,Nat.reduceAdd,Nat.reduceMul,Nat.reduceLT,Int.reduceToNat,Int.reduceAdd,Int.reduceSub,Int.reduceMul,eA,gM]
 refine Ok.step (CY h1.s.l.p.mi (hf.calm (by decide)) (id:=aW) (at_:=(at_:Int)) (by omega)) fun r ⟨k1,k2,k3⟩=>?_
 obtain ⟨q,J2⟩:=r
 rw [uU h.w,if_pos (by omega)] at k1 k2
 simp only at k1 k2 k3
 subst k1
 refine bZ ?_
 have uV:=h1.QD (v':=v) k2 k3 (fun y u _ hu=>hu) h.w rfl
 exact U.2 ⟨rfl,M.rd 1,uV,dp.rd,by simp only [Tk,ah.rd];omega,((h.s.l.p.mi.dD g2).trans k3).mono fun b hb=>by simp [hb]⟩
theorem yT {at_:Nat} {x:Int} (ha:at_<ot) (hY:aW∉Y):Ok (qo9 [.p (some (.n nb,0)),.i .i64 (at_:Int),.i .u64 x] J) fun r=>r.1=.i .i64 0/\∃ M',fg r.2 sb nb lb pb mb M' S w L T X Y aW (v.set at_ x) ot/\dp Y M M' 1 0 0/\Tk M M' 1/\aw X J r.2:=by
 obtain ⟨el,hb⟩:=h.n
 have hv:=h.vl
 have ht:=h.top
 have z0:((0:Int) == 0)=true:=rfl
 (unfold qo9 qo8;refine bZ ?_)
 refine Ok.step (uZ h (at_:=(at_:Int)) (n:=1) (by omega) (by omega) (by omega)) fun r ⟨g1,g2⟩=>?_
 obtain ⟨q,J1⟩:=r
 simp only at g1 g2
 subst g1
 have h1:=h.ext g2
 have cK:=(g2.aa _ h.s.SD).trans hb
 simp (maxSteps:=2000000) -implicitDefEqProofs (disch:=(first |omega |rfl |assumption |(simp only [aO];first |omega |assumption))) only [cK,bne,z0,Bool.not_true,Nat.reduceAdd,Nat.reduceMul,Nat.reduceLT,Int.reduceToNat,Int.reduceAdd,Int.reduceSub,Int.reduceMul,eA,gM]
 refine Ok.step (tu h1.s.l.p.mi (hf.calm (by decide)) (id:=aW) (at_:=(at_:Int)) (x:=x) (by omega)) fun r ⟨k1,k2,k3⟩=>?_
 obtain ⟨q,J2⟩:=r
 rw [na h.w,if_pos (by omega)] at k1 k2
 simp only at k1 k2 k3
 subst k1
 refine bZ ?_
 have h0:=(aF h.w).1
 rw [Int.toNat_natCast] at k2
 have uV:=h1.QD (v':=v.set at_ x) k2 k3 (fun y u hy hu=>(cL hy h0).trans hu) (cU h0 (by simp [ah.put,ah.wr,(List.getElem?_eq_some_iff.1 (aF h.w).2).1])) (by simp)
 exact U.2 ⟨rfl,_,uV,dp.wrp h0 hY,by simp only [Tk,ah.wr,ah.put];omega,((h.s.l.p.mi.dD g2).trans k3).mono fun b hb=>by simp [hb]⟩
end
end Go.Abs.Tryz
namespace Go.Abs.Tryz
open Go Go.Abs
variable {O:Type}
theorem Kp {l:EA} {id at_ n:Int} {w:List Int} (hw:ak l id=some w) (h0:0<=at_) (h1:0<=n) (h2:at_+n<=w.length):bH l id at_ n=0:=by
 unfold bH
 rw [hw]
 exact if_neg (by omega)
def gv (ws v:List Int) (top at_ n:Nat):List Int:=cu ws top ((v.drop at_).take n)
section
variable {J:AH O} {sb nb lb pb mb:Nat} {M:ah} {S:ao} {w:List Int} {L:aP} {T:bn} {X:List Nat} {Y:List Int} {aW:Int} {v:List Int} {ot:Nat} (h:fg J sb nb lb pb mb M S w L T X Y aW v ot) (hf:M.cT 10000)
include h hf
theorem Kq {at_ n:Nat} (h1:1<=n) (h2:at_+n<=ot) (h3:T.top+n<=T.ws.length) (hT:T.id∉Y):Ok (qoz [.p (some (.n nb,0)),.i .i64 (at_:Int),.i .i64 (n:Int)] J) fun r=>r.1=.aB [.i .i64 (T.top:Int),.i .i64 0]/\∃ M',fg r.2 sb nb lb pb mb M' S w L {T with ws:=gv T.ws v T.top at_ n,top:=T.top+n} X Y aW v ot/\dp Y M M' (2*n) 0 0/\Tk M M' (2*n)/\aw X J r.2:=by
 have hv:=h.vl
 have ht:=h.top
 have Nl:=h.s.tl
 have z0:((0:Int) == 0)=true:=rfl
 (unfold qoz qoy;refine bZ ?_)
 refine Ok.step (uZ h (at_:=(at_:Int)) (n:=(n:Int)) (by omega) (by omega) (by omega)) fun r ⟨g1,g2⟩=>?_
 obtain ⟨q,J1⟩:=r
 simp only at g1 g2
 subst g1
 simp (maxSteps:=2000000) -implicitDefEqProofs (disch:=(first |omega |rfl |assumption |(simp only [aO];first |omega |assumption))) only [bne,z0,Bool.not_true,Nat.reduceAdd,Nat.reduceMul,Nat.reduceLT,Int.reduceToNat,Int.reduceAdd,Int.reduceSub,Int.reduceMul,eA,gM]
 refine Ok.step (AO (h.ext g2).s h1 h3) fun r ⟨k1,k2,k3⟩=>?_
 obtain ⟨q,J2⟩:=r
 simp only at k1 k2 k3
 subst k1
 have H2:fg J2 sb nb lb pb mb M S w L {T with top:=T.top+n} X Y aW v ot:=⟨k2,h.cO,h.w,h.top⟩
 obtain ⟨el,hb⟩:=H2.n
 refine jE z0 @Bool.not_true hb ?_
 refine Ok.step (SK H2.s.l.p.mi (hf.calm (by decide)) (fr:=aW) (at_:=(at_:Int)) (to:=T.id) (de:=(T.top:Int)) (n:=(n:Int)) (by omega) (by omega)) fun r ⟨p1,p2,p3⟩=>?_
 obtain ⟨q,J3⟩:=r
 have hR:M.qf aW at_ T.id T.top n=((((M.rd n).wr n).put T.id.toNat (gv T.ws v T.top at_ n)),0):=by
  unfold ah.qf
  rw [Kp h.w (by omega) (by omega) (by omega),Kp h.s.now (by omega) (by omega) (by omega),h.s.now,h.w]
  simp [gv]
 rw [hR] at p1 p2
 simp only at p1 p2 p3
 subst p1
 refine bZ ?_
 have hl:(gv T.ws v T.top at_ n).length=T.ws.length:=eW (by simp;omega)
 have h0:=(aF h.s.now).1
 have hn:=H2.s.C0 (ws:=gv T.ws v T.top at_ n) p2 p3 (fun y u hy hu=>(cL hy h0).trans hu) (cU h0 (by simp [ah.put,ah.wr,ah.rd,(List.getElem?_eq_some_iff.1 (aF h.s.now).2).1])) hl
 refine U.2 ⟨rfl,_,⟨hn,h.cO,(cL h.ne.symm h0).trans h.w,h.top⟩,⟨by simp only [ah.rd,ah.wr,ah.put];omega,by simp only [ah.rd,ah.wr,ah.put];omega,by simp only [ah.rd,ah.wr,ah.put];omega,by simp only [ah.rd,ah.wr,ah.put];omega,by simp only [ah.rd,ah.wr,ah.put];omega,fun y hy=>cL (fun e=>hT (e▸hy)) h0⟩,by simp only [Tk,ah.rd,ah.wr,ah.put];omega,?_⟩
 exact (((h.s.l.p.mi.dD g2).mono fun b hb=>by simp [hb]).trans k3).trans (p3.mono fun b hb=>by simp [hb])
end
theorem fQ.more {M M':ah} {V:Nat->Option (Int × Int × Int)} {oO:Int} {ob:Nat->Option (List Int)} {ep:Int} {H:List Nat} {Z:List Int} {id:Int} (h:fQ M V oO ob ep H Z) (hw:∀ y v,ak M.sp y=some v->ak M'.sp y=some v) (nC:ak M.sp id=none) (jT:ak M'.sp id≠none) (hs:oO≠id):fQ M' V oO ob ep H (id::Z):=
 ⟨h.Gj,fun i ws ho=>by
  obtain ⟨sp,mk,a1,a2,a3,a4,a5,a6,a7⟩:=h.at_ i ws ho
  refine ⟨sp,mk,a1,a2,a3,a4,hw _ _ a5,a6,fun hm=>?_⟩
  rcases List.mem_cons.1 hm with e |e
  ·rw [e,nC] at a5;cases a5
  ·exact a7 e,h.apart,fun y hy=>by
  rcases List.mem_cons.1 hy with e |e
  ·rw [e];exact ⟨jT,fun e2=>hs e2.symm⟩
  ·obtain ⟨g1,g2⟩:=h.others y e
   refine ⟨?_,g2⟩
   cases hv:ak M.sp y with
   |none=>exact absurd hv g1
   |some v=>rw [hw y v hv];simp⟩
theorem AT {J:AH O} {sb nb lb pb mb:Nat} {M:ah} {S:ao} {w:List Int} {L:aP} {T:bn} {X:List Nat} {Y:List Int} (h:bq J sb nb lb pb mb M S w L T X Y) (hf:M.cT 100) (je:M.count<262144) {a b:Int} (hold:T.cO=[.i .i64 a,.i .i64 b,.b false]):
  Ok (qnk [.p (some (.n nb,0)),.i .i64 (T.top:Int)] J) fun r=>r.1=.i .i64 0/\∃ M',fg r.2 sb nb lb pb mb M' S w L ⟨(ff M.sp:Nat),List.replicate T.top 0,0,[.i .i64 T.id,.i .i64 (T.top:Int),.b true],T.small⟩ X Y T.id T.ws T.top/\dp Y M M' 0 T.top 1/\Tk M M' 0/\aw X J r.2:=by
 obtain ⟨el,hb⟩:=h.n
 simp only [bn.yQ,hold] at hb
 have Nl:=h.tl
 have Nk:=h.top
 have z0:((0:Int) == 0)=true:=rfl
 (unfold qnk qnj;refine cw hb ?_)
 refine Ok.step (Sz h.l.p.mi (hf.calm (by decide)) (n:=(T.top:Int))) fun r ⟨p1,p2,p3⟩=>?_
 obtain ⟨q,J1⟩:=r
 have hR:M.mG T.top=(M.iv (ff M.sp) T.top,(ff M.sp:Int),0):=by
  unfold ah.mG
  rw [if_neg (by omega),if_neg (by omega),if_neg (by omega)]
 rw [hR] at p1 p2
 simp only at p1 p2 p3
 subst p1
 have cK:=(p3.aa nb (by simp)).trans hb
 simp (maxSteps:=2000000) -implicitDefEqProofs (disch:=(first |omega |rfl |assumption |(simp only [aO];first |omega |assumption))) only [bne,z0,Bool.not_true,cK,Nat.reduceAdd,Nat.reduceMul,Nat.reduceLT,Int.reduceToNat,Int.reduceAdd,Int.reduceSub,Int.reduceMul,eA,gM]
 have F6:=nf M.sp
 have nW:ak M.sp (ff M.sp:Int)=none:=by
  cases hw:ak M.sp (ff M.sp:Int) with
  |none=>rfl
  |some u=>
   have:=(aF hw).2
   rw [Int.toNat_natCast] at this
   have:=F6.here _ this
   cases this
 have dv:∀ y u,ak M.sp y=some u->ak (M.iv (ff M.sp) T.top).sp y=some u:=fun y u hu=>by
  obtain ⟨k0,k1⟩:=aF hu
  refine cU k0 ?_
  show (fM M.sp (ff M.sp) _)[y.toNat]? = _
  rw [gy F6.le,if_neg]
  ·exact k1
  ·intro e
   rw [show y=((ff M.sp:Nat):Int) by omega,nW] at hu;cases hu
 have nC:ak (M.iv (ff M.sp) T.top).sp (ff M.sp:Int)=some (List.replicate T.top 0):=by
  refine cU (Int.natCast_nonneg _) ?_
  show (fM M.sp (ff M.sp) _)[(ff M.sp:Int).toNat]? = _
  rw [gy F6.le,Int.toNat_natCast,if_pos rfl,Int.toNat_natCast]
 have hs:S.id≠(ff M.sp:Int):=fun e=>by
  have:=h.l.p.now
  rw [e,nW] at this;cases this
 obtain ⟨vQ,fv⟩:=h.l.b
 obtain ⟨Hz,mz⟩:=h.s
 have L1:bK J1 lb pb mb (M.iv (ff M.sp) T.top) S w L (nb::sb::X) ((ff M.sp:Int)::T.id::Y):=
  {h.l with p:={h.l.p with mi:=p2,b:=(p3.aa _ (by simp)).trans h.l.p.b,now:=dv _ _ h.l.p.now},b:=⟨vQ,(p3.aa _ (by simp)).trans fv⟩,o:=h.l.o.more dv nW (by rw [nC];simp) hs}
 have bh:dp Y M (M.iv (ff M.sp) T.top) 0 T.top 1:=h.l.p.mi.ok.Sx (by omega) (by omega) je fun y hy=>(h.l.o.others y (by simp [hy])).1
 have oY:(ff M.sp:Int)∉T.id::Y:=fun hm=>(h.l.o.others _ hm).1 nW
 refine U.2 ⟨rfl,_,⟨⟨L1.bF (K:=[nb]) ⟨by simp,fun c hc hm=>aA (by simpa using hm)⟩ (fun c hc=>.inl (by simp at hc;simp [hc])) (fun b hb=>.inl hb),⟨el,aH⟩,⟨Hz,(aA h.nd.1.symm).trans ((p3.aa _ (by simp)).trans mz)⟩,nC,Nat.zero_le _,h.nd,oY⟩,rfl,dv _ _ h.now,Nk⟩,bh,by simp [Tk,ah.iv,fX.hold],?_⟩
 exact (p3.mono fun b hb=>by simp [hb]).trans (aw.put h.nd.2.1 _)
end Go.Abs.Tryz
namespace Go.Abs.Tryz
open Go Go.Abs
variable {O:Type}
noncomputable abbrev Yj:List (Nat × Sm O):=[(57,Mb),(50,Vc),(15,qpe)]
structure eL (f:Fn × List AV × List AV) (Tw:List Hd->AH O->List Nat->Prop):Prop where
 call:∀ {hs:List Hd} {J:AH O} {Z:List Nat} {hd:Hd},Tw hs J Z->hd.ok->(∀ b∈Z,b<J.next)->hs.length<1000->Ok (pB Yj (some f) [.agg hd.av] J) fun r=>r.1=.aB []/\∃ Z',Tw (hs++[hd]) r.2 Z'/\ei Z J r.2/\∀ b∈Z',b∈Z ∨ (J.next<=b/\b<r.2.next)
 dv:∀ {hs:List Hd} {J J':AH O} {Z:List Nat},Tw hs J Z->aw Z J J'->Tw hs J' Z
def CR:Fn × List AV × List AV:=(.func 50,[],[])
theorem AG:eL (O:=O) CR fun _ _ Z=>Z=[] where
 call:=by
  rintro hs J Z hd rfl k _ _
  show Ok (Vc [.agg hd.av] J) _
  simp only [Hd.av]
  (unfold Vc qmz;refine bZ ?_)
  exact U.2 ⟨rfl,[],rfl,⟨by simp,fun b hb _=>by ((try simp only [aO] at *);simp -implicitDefEqProofs (disch:=(first |omega |rfl |assumption |(simp only [aO];first |omega |assumption))) only [aH,aA,bA,au])⟩,by simp⟩
 dv:=fun h _=>h
structure bd (f:Fn × List AV × List AV) (Tw:List Hd->AH O->List Nat->Prop) (J:AH O) (eb sb nb lb pb mb:Nat) (M:ah) (S:ao) (w:List Int) (L:aP) (T:bn) (X:List Nat) (Y:List Int) (aW:Int) (v:List Int) (ot:Nat) (hs:List Hd) (Z:List Nat):Prop where
 t:fg J sb nb lb pb mb M S w L T (eb::(Z++X)) Y aW v ot
 b:J.aa eb=some (.cells true Yk [.p (some (.n sb,0)),.fn (some f),.i .i64 (hs.length:Int)])
 nx:eb∉Z/\eb∉X
 nz:∀ b∈Z,b∉X
 j:Tw hs J Z
section
variable {f:Fn × List AV × List AV} {Tw:List Hd->AH O->List Nat->Prop} (tl:eL f Tw) {J:AH O} {eb sb nb lb pb mb:Nat} {M:ah} {S:ao} {w:List Int} {L:aP} {T:bn} {X Z:List Nat} {Y:List Int} {aW:Int} {v:List Int} {ot:Nat} {hs:List Hd} (h:bd f Tw J eb sb nb lb pb mb M S w L T X Y aW v ot hs Z)
include h
theorem bd.lt:eb<J.next:=h.t.s.lt eb (by simp)
theorem bd.lX:∀ b∈X,b<J.next:=fun b hb=>h.t.s.lt b (by simp [hb])
theorem bd.lZ:∀ b∈Z,b<J.next:=fun b hb=>h.t.s.lt b (by simp [hb])
include tl
theorem bd.ext {J':AH O} (e:Ext J J'):bd f Tw J' eb sb nb lb pb mb M S w L T X Y aW v ot hs Z:=⟨h.t.ext e,(e.aa _ h.lt).trans h.b,h.nx,h.nz,tl.dv h.j ⟨e.next,fun b hb=>e.aa b (h.lZ b hb)⟩⟩
theorem bd.as {J':AH O} {M':ah} {S':ao} {w':List Int} {L':aP} {T':bn} {v':List Int} (t:fg J' sb nb lb pb mb M' S' w' L' T' (eb::(Z++X)) Y aW v' ot) (k:aw (eb::(Z++X)) J J'):bd f Tw J' eb sb nb lb pb mb M' S' w' L' T' X Y aW v' ot hs Z:=⟨t,(k.aa _ (by simp)).trans h.b,h.nx,h.nz,tl.dv h.j (k.mono fun b hb=>by simp [hb])⟩
theorem EC {hd:Hd} (k:hd.ok) (hn:hs.length<1000):Ok (Yl [.p (some (.n eb,0)),.i .u64 (hd.word:Int)] J) fun r=>r.1=.aB []/\∃ Z',bd f Tw r.2 eb sb nb lb pb mb M S w L T X Y aW v ot (hs++[hd]) Z'/\aw X J r.2:=by
 have hb:=h.b
 have hl:=h.lt
 (unfold Yl qpi;refine bZ ?_)
 refine Ok.step (kr _ k) fun q ⟨q1,q2⟩=>?_
 obtain ⟨q,J1⟩:=q
 simp only at q1 q2
 subst q1
 have nx:=q2.next
 simp only [aO] at nx
 have cK:J1.aa eb=some (.cells true Yk [.p (some (.n sb,0)),.fn (some f),.i .i64 (hs.length:Int)]):=by rw [q2.aa eb (by simp only [aO];omega)];exact hb
 simp only [Hd.av]
 have ne:eb≠J.next:=by omega
 refine cw cK ?_
 generalize hJ:AH.put _ eb _=J2
 have n2:J2.next=J1.next:=by rw [<-hJ];rfl
 have b2:J2.aa eb=some (.cells true Yk [.p (some (.n sb,0)),.fn (some f),.i .i64 ((hs.length:Int)+1)]):=by rw [<-hJ];exact aH
 have c2:ei [eb] J J2:=⟨by omega,fun b hb hm=>by
  have hm:b≠eb:=by simpa using hm
  rw [<-hJ]
  ((have x0:=(q2).next);(try simp only [aO] at *);simp -implicitDefEqProofs (disch:=(first |omega |rfl |assumption |(simp only [aO];first |omega |assumption))) only [aH,aA,bA,au,cB (q2)])⟩
 clear hJ
 have t2:bq J2 sb nb lb pb mb M S w L T (eb::(Z++X)) (aW::Y):=h.t.s.bF (K:=[eb]) c2 (fun b hb=>.inl (by simp at hb;simp [hb])) (fun b hb=>.inl hb)
 have k2:∀ b∈Z++X,J2.aa b=J.aa b:=fun c hc=>c2.aa c (h.t.s.lt c (List.mem_cons_of_mem _ hc)) (by
  simp only [List.mem_singleton]
  intro hce
  rw [hce] at hc
  rcases List.mem_append.1 hc with hc |hc
  ·exact h.nx.1 hc
  ·exact h.nx.2 hc)
 have j2:Tw hs J2 Z:=tl.dv h.j ⟨c2.next,fun b hb=>k2 b (by simp [hb])⟩
 refine Ok.step (tl.call j2 k (fun b hb=>t2.lt b (by simp [hb])) hn) fun q ⟨p1,Z',p2,p3,p4⟩=>?_
 obtain ⟨q,J3⟩:=q
 simp only at p1 p2 p3 p4
 subst p1
 have lt2:eb<J2.next:=t2.lt eb (by simp)
 have Vd:∀ b∈X,b<J2.next:=fun b hb=>t2.lt b (by simp [hb])
 have t3:bq J3 sb nb lb pb mb M S w L T (eb::(Z'++X)) (aW::Y):=t2.bF p3 (fun b hb=>.inl (by simp [hb])) (fun b hb=>by
  simp only [List.mem_cons,List.mem_append] at hb ⊢
  rcases hb with hb |hb |hb
  ·exact .inl (.inl hb)
  ·rcases p4 b hb with g |g
   ·exact .inl (.inr (.inl g))
   ·exact .inr g
  ·exact .inl (.inr (.inr hb)))
 have x3:∀ b∈X,b∉Z:=fun b hb hz=>h.nz b hz hb
 have b3:=(p3.aa eb lt2 h.nx.1).trans b2
 refine bZ ?_
 refine U.2 ⟨rfl,Z',⟨⟨t3,h.t.cO,h.t.w,h.t.top⟩,by rw [b3,List.length_append];rfl,⟨fun hz=>?_,h.nx.2⟩,fun b hz hx=>?_,p2⟩,⟨Nat.le_trans c2.next p3.next,fun b hb=>?_⟩⟩
 ·rcases p4 _ hz with g |g
  ·exact h.nx.1 g
  ·omega
 ·rcases p4 _ hz with g |g
  ·exact h.nz b g hx
  ·have:=Vd b hx;omega
 ·show J3.aa b=_
  rw [p3.aa b (Vd b hb) (x3 b hb),k2 b (by simp [hb])]
end
end Go.Abs.Tryz
set_option maxHeartbeats 4000000
namespace Go.Abs.Tryz
open Go Go.Abs
variable {O:Type}
def Hd.size (h:Hd):Nat:=1+h.p+h.r
theorem oU {X:List Nat} {J J':AH O} (e:Ext J J') (hX:∀ b∈X,b<J.next):aw X J J':=⟨e.next,fun b hb=>e.aa b (hX b hb)⟩
section
variable {f:Fn × List AV × List AV} {Tw:List Hd->AH O->List Nat->Prop} (tl:eL f Tw) {J:AH O} {eb sb nb lb pb mb:Nat} {M:ah} {S:ao} {w:List Int} {L:aP} {T:bn} {X Z:List Nat} {Y:List Int} {aW:Int} {v:List Int} {ot:Nat} {hs:List Hd} (h:bd f Tw J eb sb nb lb pb mb M S w L T X Y aW v ot hs Z) (hf:M.cT 100000)
include tl h hf
theorem Gt {at_ to:Nat} (ha:at_<ot) (cX:at_<4194304) (ht:to<4194304) (hw:v.getD at_ 0=fwd to):Ok (Ve [.p (some (.n eb,0)),.i .u64 (m8 at_)] J) fun r=>r.1=.i .u64 (m8 to)/\∃ M',bd f Tw r.2 eb sb nb lb pb mb M' S w L T X Y aW v ot hs Z/\dp Y M M' 1 0 0/\Tk M M' 1/\aw X J r.2:=by
 have hb:=h.b
 obtain ⟨el,oy⟩:=h.t.s.s
 have a1:=AP J cX
 have z0:((0:Int) == 0)=true:=rfl
 (unfold Ve qpn BC LV;refine jE hb oy a1 ?_)
 refine Ok.step (mH h.t (hf.less (by decide)) ha) fun r ⟨g1,M',g2,g3,g4,g5⟩=>?_
 obtain ⟨q,J1⟩:=r
 simp only at g1 g2 g5
 subst g1
 rw [hw]
 simp (maxSteps:=2000000) -implicitDefEqProofs (disch:=(first |omega |rfl |assumption |(simp only [aO];first |omega |assumption))) only [bne,z0,Bool.not_true,Nat.reduceAdd,Nat.reduceMul,Nat.reduceLT,Int.reduceToNat,Int.reduceAdd,Int.reduceSub,Int.reduceMul,eA,gM]
 refine Ok.step (nV J1 ht) fun r ⟨k1,k2⟩=>?_
 obtain ⟨q,J2⟩:=r
 simp only at k1 k2
 subst k1
 have ts:=jm J2 ht
 refine cw ts ?_
 have h1:=h.as tl g2 g5
 exact U.2 ⟨rfl,M',h1.ext tl k2,g3,g4,(g5.trans (oU k2 fun b hb=>g2.s.lt b hb)).mono fun b hb=>by simp [hb]⟩
theorem Gu {at_:Nat} {hd:Hd} (k:hd.ok) (hw:v.getD at_ 0=(hd.word:Int)) (ha:at_+hd.size<=ot) (hr:T.top+hd.size<=T.ws.length) (hT:T.id∉Y) (hO:aW∉Y) (hn:hs.length<1000):Ok (Ve [.p (some (.n eb,0)),.i .u64 (m8 at_)] J) fun r=>r.1=.i .u64 (m8 T.top)/\∃ M' Z',bd f Tw r.2 eb sb nb lb pb mb M' S w L {T with ws:=(gv T.ws v T.top at_ hd.size).set T.top (hd.aI.word:Int),top:=T.top+hd.size} X Y aW (v.set at_ (fwd T.top)) ot (hs++[hd.aI]) Z'/\dp Y M M' (2*hd.size+3) 0 0/\Tk M M' (2*hd.size+3)/\aw X J r.2:=by
 have hb:=h.b
 obtain ⟨el,oy⟩:=h.t.s.s
 have vl:=h.t.vl
 have vt:=h.t.top
 have wtl:=h.t.s.tl
 have k1:=k.p
 have k2:=k.r
 have ks:hd.size=1+hd.p+hd.r:=rfl
 have a1:=fun J:AH O=>AP (at_:=at_) J (by omega)
 have z0:((0:Int) == 0)=true:=rfl
 (unfold Ve qpn BC LV;refine jE hb oy a1 ?_)
 refine Ok.step (mH h.t (hf.less (by decide)) (by omega)) fun r ⟨g1,M1,g2,g3,g4,g5⟩=>?_
 obtain ⟨q,J1⟩:=r
 simp only at g1 g2 g5
 subst g1
 rw [hw]
 have H1:=h.as tl g2 g5
 have f1:M1.cT 99000:=g3.cT (hf.less (by decide))
 simp (maxSteps:=2000000) -implicitDefEqProofs (disch:=(first |omega |rfl |assumption |(simp only [aO];first |omega |assumption))) only [bne,z0,Bool.not_true,Nat.reduceAdd,Nat.reduceMul,Nat.reduceLT,Int.reduceToNat,Int.reduceAdd,Int.reduceSub,Int.reduceMul,eA,gM]
 refine Ok.step (qd J1 (w:=hd.word) (by have:=k.w;omega)) fun r ⟨p1,p2⟩=>?_
 obtain ⟨q,J2⟩:=r
 simp only at p1 p2
 subst p1
 refine bZ ?_
 refine Ok.step (kr _ k) fun r ⟨p3,p4⟩=>?_
 obtain ⟨q,J3⟩:=r
 simp only at p3 p4
 subst p3
 have n3:=p4.next
 simp only [aO] at n3
 simp only [Hd.av]
 refine BA z0 @Bool.not_true a1 @CF ?_
 generalize hJ4:AH.put J3 J2.next _=J4
 have E2:Ext J2 J4:=by rw [<-hJ4];exact (cN (by (have x0:=(p4).next);(try simp only [aO] at *);omega) (fun b hb=>by (have x0:=(p4).next);(try simp only [aO] at *);simp -implicitDefEqProofs (disch:=(first |omega |rfl |assumption |(simp only [aO];first |omega |assumption))) only [aA,bA,au,cB (p4)]))
 clear hJ4
 have H4:=(H1.ext tl p2).ext tl E2
 have E12:=p2.trans E2
 refine Ok.step (kq J4 (p:=(hd.p:Int)) (r:=(hd.r:Int)) (by omega) (by omega)) fun r ⟨p5,p6⟩=>?_
 obtain ⟨q,J5⟩:=r
 simp only at p5 p6
 rw [show (1:Int)+(hd.p:Int)+(hd.r:Int)=((hd.size:Nat):Int) by omega] at p5
 subst p5
 have H5:=H4.ext tl p6
 refine bZ ?_
 refine Ok.step (Kq H5.t (f1.less (by decide)) (at_:=at_) (n:=hd.size) (by omega) ha hr hT) fun r ⟨m1,M2,m2,m3,m4,m5⟩=>?_
 obtain ⟨q,J6⟩:=r
 simp only at m1 m2 m5
 subst m1
 have H6:=H5.as tl m2 m5
 have f2:M2.cT 80000:=m3.cT (f1.less (by omega))
 refine gh z0 @Bool.not_true ?_
 refine Ok.step (AS J6 k) fun r ⟨o1,o2⟩=>?_
 obtain ⟨q,J7⟩:=r
 simp only at o1 o2
 subst o1
 have H7:=H6.ext tl o2
 refine bZ ?_
 refine Ok.step (rO H7.t.s (f2.less (by decide)) (at_:=(T.top:Int)) (x:=(hd.aI.word:Int)) (by show 0<=(T.top:Int)/\(T.top:Int)<((T.top+hd.size:Nat):Int);omega)) fun r ⟨w1,M3,w2,w3,w4,w5⟩=>?_
 obtain ⟨q,J8⟩:=r
 simp only at w1 w2 w5
 subst w1
 rw [Int.toNat_natCast] at w2
 have H8:=H7.as tl ⟨w2,H7.t.cO,(w3.dv aW (by simp)).trans H7.t.w,H7.t.top⟩ w5
 have f3:M3.cT 79000:=w3.cT (f2.less (by decide))
 have fo:=fun J:AH O=>oT J (at_:=T.top) (by omega)
 refine gh fo a1 ?_
 refine Ok.step (yT H8.t (f3.less (by decide)) (at_:=at_) (x:=fwd T.top) (by omega) hO) fun r ⟨x1,M4,x2,x3,x4,x5⟩=>?_
 obtain ⟨q,J9⟩:=r
 simp only at x1 x2 x5
 subst x1
 have H9:=H8.as tl x2 x5
 refine bZ ?_
 refine Ok.step (EC tl H9 k.aI hn) fun r ⟨y1,Z',y2,y3⟩=>?_
 obtain ⟨q,J10⟩:=r
 simp only at y1 y2 y3
 subst y1
 have ts:=jm J10 (at_:=T.top) (by omega)
 refine cw ts ?_
 have K:aw X J J10:=by
  have lt1:∀ b∈X,b<J1.next:=fun b hb=>H1.t.s.lt b (by simp [hb])
  have Sb:∀ b∈X,b<J4.next:=fun b hb=>H4.t.s.lt b (by simp [hb])
  have UQ:∀ b∈X,b<J6.next:=fun b hb=>H6.t.s.lt b (by simp [hb])
  have sub:∀ b∈X,b∈eb::(Z++X):=fun b hb=>by simp [hb]
  exact (((((((g5.mono sub).trans (oU E12 lt1)).trans (oU p6 Sb)).trans (m5.mono sub)).trans (oU o2 UQ)).trans (w5.mono sub)).trans (x5.mono sub)).trans y3
 refine U.2 ⟨rfl,M4,Z',y2,((((g3.trans m3).trans (w3.mono fun y hy=>by simp [hy])).trans x3)).as (by omega) (by omega) (by omega),(((g4.trans m4).trans (show Tk M2 M3 1 from w4)).trans x4).as (by omega),K⟩
end
end Go.Abs.Tryz
namespace Go.Abs.Tryz
open Go Go.Abs
variable {O:Type}
def aP.met (L:aP) (i:Nat) (ws:List Int) (x:Int):aP:={L with H:=L.H++[i],W:=L.W.filter (fun j=>j != i),ob:=fun j=>if j=i then some (ws.set 0 x) else L.ob j}
section
variable {J:AH O} {sb nb lb pb mb:Nat} {M:ah} {S:ao} {w:List Int} {L:aP} {T:bn} {X:List Nat} {Y:List Int} {aW:Int} {v:List Int} {ot:Nat} (h:fg J sb nb lb pb mb M S w L T X Y aW v ot)
include h
theorem fg.fY {J':AH O} {M':ah} {S':ao} {w':List Int} {L':aP} {k a c:Int} (l:bK J' lb pb mb M' S' w' L' (nb::sb::X) (T.id::aW::Y)) (b:dp (T.id::aW::Y) M M' k a c) (kp:aw (nb::sb::X) J J'):fg J' sb nb lb pb mb M' S' w' L' T X Y aW v ot:=
 ⟨h.s.fY l b kp,h.cO,(b.dv aW (by simp)).trans h.w,h.top⟩
end
section
variable {f:Fn × List AV × List AV} {Tw:List Hd->AH O->List Nat->Prop} (tl:eL f Tw) {J:AH O} {eb sb nb lb pb mb:Nat} {M:ah} {S:ao} {w:List Int} {L:aP} {T:bn} {X Z:List Nat} {Y:List Int} {aW:Int} {v:List Int} {ot:Nat} {hs:List Hd} (h:bd f Tw J eb sb nb lb pb mb M S w L T X Y aW v ot hs Z) (hf:M.cT 100000)
include tl h hf
theorem Gv {i:Nat} (hi:i∈L.H) (xS:i<1048576):Ok (Vf [.p (some (.n eb,0)),.i .u64 (nD i)] J) fun r=>r.1=.aB []/\∃ M',bd f Tw r.2 eb sb nb lb pb mb M' S w L T X Y aW v ot hs Z/\dp Y M M' 2 0 0/\aw X J r.2:=by
 have hb:=h.b
 obtain ⟨el,oy⟩:=h.t.s.s
 have a1:=fun J:AH O=>AQ (i:=i) J xS
 (unfold Vf qqc El Nh;refine jE hb oy a1 ?_)
 refine Ok.step (Gp h.t.s.l (hf.less (by decide)) hi) fun r ⟨g1,M1,g2,g3,g4⟩=>?_
 obtain ⟨q,J1⟩:=r
 simp only at g1 g2 g4
 subst g1
 refine cw @Bool.not_false ?_
 have t1:=h.t.fY g2 g3 g4
 exact U.2 ⟨rfl,M1,h.as tl t1 (g4.mono fun b hb=>List.mem_cons_of_mem _ (List.mem_cons_of_mem _ hb)),g3.mono fun y hy=>by simp [hy],g4.mono fun b hb=>by simp [hb]⟩
theorem Gw {i:Nat} {ws:List Int} {hd:Hd} (ho:L.ob i=some ws) (hi:i∉L.H) (k:hd.ok) (hl:0<ws.length) (hw:ws.getD 0 0=(hd.word:Int)) (hn:hs.length<1000):Ok (Vf [.p (some (.n eb,0)),.i .u64 (nD i)] J) fun r=>r.1=.aB []/\∃ M' S' w' Z',bd f Tw r.2 eb sb nb lb pb mb M' S' w' (L.met i ws (hd.aI.word:Int)) T X Y aW v ot (hs++[hd.aI]) Z'/\Alike S S'/\dp Y M M' 18 0 0/\aw X J r.2:=by
 have hb:=h.b
 obtain ⟨el,oy⟩:=h.t.s.s
 have a1:=fun J:AH O=>AQ (i:=i) J (h.t.s.vR ho)
 have z0:((0:Int) == 0)=true:=rfl
 (unfold Vf qqc El Nh;refine jE hb oy a1 ?_)
 refine Ok.step (Kc h.t.s.l (hf.less (by decide)) ho hi) fun r ⟨g1,M1,S1,w1,g2,ga,g3,g4⟩=>?_
 obtain ⟨q,J1⟩:=r
 simp only at g1 g2 g4
 subst g1
 have t1:=h.t.fY g2 g3 g4
 have f1:M1.cT 99000:=g3.cT (hf.less (by decide))
 refine gh @Bool.not_true a1 ?_
 refine Ok.step (AR t1.s.l (f1.less (by decide)) (i:=i) (ws:=ws) ho (at_:=0) (by omega)) fun r ⟨k1,M2,k2,k3,k4,k5⟩=>?_
 obtain ⟨q,J2⟩:=r
 simp only at k1 k2 k5
 rw [show (0:Int).toNat=0 from rfl,hw] at k1
 subst k1
 have t2:=t1.fY k2 k3 k5
 have f2:M2.cT 98000:=k3.cT (f1.less (by decide))
 refine bZ ?_
 refine Ok.step (AS J2 k) fun r ⟨o1,o2⟩=>?_
 obtain ⟨q,J3⟩:=r
 simp only at o1 o2
 subst o1
 have t3:=t2.ext o2
 simp (maxSteps:=2000000) -implicitDefEqProofs (disch:=(first |omega |rfl |assumption |(simp only [aO];first |omega |assumption))) only [bne,z0,Bool.not_true,a1,Nat.reduceAdd,Nat.reduceMul,Nat.reduceLT,Int.reduceToNat,Int.reduceAdd,Int.reduceSub,Int.reduceMul,eA,gM]
 refine Ok.step (xv t3.s.l (f2.less (by decide)) (i:=i) (ws:=ws) ho (at_:=0) (x:=(hd.aI.word:Int)) (by omega)) fun r ⟨j1,M3,j2,j3,j4,j5⟩=>?_
 obtain ⟨q,J4⟩:=r
 simp only at j1 j2 j5
 subst j1
 have t4:=t3.fY j2 j3 j5
 refine bZ ?_
 have K4:aw (nb::sb::eb::(Z++X)) J J4:=((g4.trans k5).trans (oU o2 fun b hb=>t2.s.l.lX b hb)).trans j5
 have H4:=h.as tl t4 (K4.mono fun b hb=>List.mem_cons_of_mem _ (List.mem_cons_of_mem _ hb))
 refine Ok.step (EC tl H4 k.aI hn) fun r ⟨y1,Z',y2,y3⟩=>?_
 obtain ⟨q,J5⟩:=r
 simp only at y1 y2 y3
 subst y1
 refine bZ ?_
 exact U.2 ⟨rfl,M3,S1,w1,Z',y2,ga,(((g3.trans k3).trans j3).mono fun y hy=>by simp [hy]).as (by omega) (by omega) (by omega),(K4.mono fun b hb=>by simp [hb]).trans y3⟩
end
end Go.Abs.Tryz
namespace Go.Abs.Tryz
open Go Go.Abs
variable {O:Type}
def aP.fresh (L:aP):aP:={L with H:=[],W:=L.W++L.H,ep:=L.ep+1,last:=0}
def bn.flip (T:bn) (i:Nat):bn:=⟨(i:Int),List.replicate T.top 0,0,[.i .i64 T.id,.i .i64 (T.top:Int),.b true],T.small⟩
theorem Ns (J:AH O) (sb:Nat):Ok (Ym [.p (some (.n sb,0)),.fn none] J) fun r=>r.1=.p (some (.n J.next,0))/\r.2.aa J.next=some (.cells true Yk [.p (some (.n sb,0)),.fn (some CR),.i .i64 (([]:List Hd).length:Int)])/\r.2.next=J.next+1/\Ext J r.2:=by
 (unfold Ym qm4;refine cw @Option.isNone_none.{0} ?_)
 exact U.2 ⟨rfl,aH,rfl,rj⟩
theorem Ju {f:Fn × List AV × List AV} {Tw:List Hd->AH O->List Nat->Prop} (tl:eL f Tw) {J:AH O} {eb sb nb lb pb mb:Nat} {M:ah} {S:ao} {w:List Int} {L:aP} {T:bn} {X Z:List Nat} {Y:List Int} {hs:List Hd} (h:bq J sb nb lb pb mb M S w L T (eb::(Z++X)) Y) (hb:J.aa eb=some (.cells true Yk [.p (some (.n sb,0)),.fn (some f),.i .i64 (hs.length:Int)])) (nx:eb∉Z/\eb∉X) (nz:∀ b∈Z,b∉X) (hj:Tw hs J Z) (hf:M.cT 100000) (je:M.count<262144) {a b:Int} (hold:T.cO=[.i .i64 a,.i .i64 b,.b false]) (hep:L.ep+1<4611686018427387904):
  Ok (Yn [.p (some (.n eb,0))] J) fun r=>r.1=.i .i64 0/\∃ M' S' w',bd f Tw r.2 eb sb nb lb pb mb M' S' w' L.fresh (T.flip (ff M.sp)) X Y T.id T.ws T.top hs Z/\Alike S S'/\dp Y M M' 2 T.top 1/\aw X J r.2:=by
 obtain ⟨el,oy⟩:=h.s
 obtain ⟨vQ,We⟩:=h.n
 simp only [bn.yQ] at We
 have z0:((0:Int) == 0)=true:=rfl
 (unfold Yn qnz BC LV QE Vg;refine jE hb oy We ?_)
 refine Ok.step (AT h (hf.less (by decide)) je hold) fun r ⟨g1,M1,g2,g3,g4,g5⟩=>?_
 obtain ⟨q,J1⟩:=r
 simp only at g1 g2 g5
 subst g1
 have f1:M1.cT 99000:=g3.cT (hf.less (by decide))
 have cK:=(g5.aa eb (by simp)).trans hb
 obtain ⟨Hz,AU⟩:=g2.s.s
 simp (maxSteps:=2000000) -implicitDefEqProofs (disch:=(first |omega |rfl |assumption |(simp only [aO];first |omega |assumption))) only [bne,z0,Bool.not_true,cK,El,Nh,AU,Nat.reduceAdd,Nat.reduceMul,Nat.reduceLT,Int.reduceToNat,Int.reduceAdd,Int.reduceSub,Int.reduceMul,eA,gM]
 refine Ok.step (Gn g2.s.l (f1.less (by decide)) hep) fun r ⟨k1,M2,S2,w2,k2,ka,k3,k4⟩=>?_
 obtain ⟨q,J2⟩:=r
 simp only at k1 k2 k4
 subst k1
 refine bZ ?_
 have t2:=g2.fY k2 k3 k4
 refine U.2 ⟨rfl,M2,S2,w2,⟨t2,(k4.aa eb (by simp)).trans cK,nx,nz,tl.dv hj ((g5.mono fun b hb=>by simp [hb]).trans (k4.mono fun b hb=>by simp [hb]))⟩,ka,(g3.trans (k3.mono fun y hy=>by simp [hy])).as (by omega) (by omega) (by omega),(g5.mono fun b hb=>by simp [hb]).trans (k4.mono fun b hb=>by simp [hb])⟩
section
variable {f:Fn × List AV × List AV} {Tw:List Hd->AH O->List Nat->Prop} (tl:eL f Tw) {J:AH O} {eb sb nb lb pb mb:Nat} {M:ah} {S:ao} {w:List Int} {L:aP} {T:bn} {X Z:List Nat} {Y:List Int} {aW:Int} {v:List Int} {ot:Nat} {hs:List Hd} (h:bd f Tw J eb sb nb lb pb mb M S w L T X Y aW v ot hs Z) (hf:M.cT 100000)
include tl h hf
theorem Jn {at_ to:Nat} (ha:at_<ot) (cX:at_<4194304) (ht:to<4194304) (hw:v.getD at_ 0=fwd to):Ok (zG [.p (some (.n eb,0)),.i .u64 (m8 at_)] J) fun r=>r.1=.i .u64 (m8 to)/\∃ M',bd f Tw r.2 eb sb nb lb pb mb M' S w L T X Y aW v ot hs Z/\dp Y M M' 1 0 0/\Tk M M' 1/\aw X J r.2:=by
 have a1:=jG J cX
 have z1:((1:Int) == 1)=true:=rfl
 (unfold zG Vh;refine gh a1 z1 ?_)
 refine Ok.step (Gt tl h hf ha cX ht hw) fun r ⟨g1,g2⟩=>?_
 obtain ⟨q,J1⟩:=r
 simp only at g1 g2
 subst g1
 refine bZ ?_
 exact U.2 ⟨rfl,g2⟩
theorem Jo {at_:Nat} {hd:Hd} (k:hd.ok) (hw:v.getD at_ 0=(hd.word:Int)) (ha:at_+hd.size<=ot) (hr:T.top+hd.size<=T.ws.length) (hT:T.id∉Y) (hO:aW∉Y) (hn:hs.length<1000):Ok (zG [.p (some (.n eb,0)),.i .u64 (m8 at_)] J) fun r=>r.1=.i .u64 (m8 T.top)/\∃ M' Z',bd f Tw r.2 eb sb nb lb pb mb M' S w L {T with ws:=(gv T.ws v T.top at_ hd.size).set T.top (hd.aI.word:Int),top:=T.top+hd.size} X Y aW (v.set at_ (fwd T.top)) ot (hs++[hd.aI]) Z'/\dp Y M M' (2*hd.size+3) 0 0/\Tk M M' (2*hd.size+3)/\aw X J r.2:=by
 have vl:=h.t.vl
 have vt:=h.t.top
 have ks:hd.size=1+hd.p+hd.r:=rfl
 have a1:=jG (at_:=at_) J (by omega)
 have z1:((1:Int) == 1)=true:=rfl
 (unfold zG Vh;refine gh a1 z1 ?_)
 refine Ok.step (Gu tl h hf k hw ha hr hT hO hn) fun r ⟨g1,g2⟩=>?_
 obtain ⟨q,J1⟩:=r
 simp only at g1 g2
 subst g1
 refine bZ ?_
 exact U.2 ⟨rfl,g2⟩
theorem yE {i:Nat} (hi:i∈L.H) (xS:i<1048576):Ok (zG [.p (some (.n eb,0)),.i .u64 (nD i)] J) fun r=>r.1=.i .u64 (nD i)/\∃ M',bd f Tw r.2 eb sb nb lb pb mb M' S w L T X Y aW v ot hs Z/\dp Y M M' 2 0 0/\aw X J r.2:=by
 have a1:=jF J xS
 have z1:((2:Int) == 1)=false:=rfl
 have z2:((2:Int) == 2)=true:=rfl
 (unfold zG Vh;refine jE a1 z1 z2 ?_)
 refine Ok.step (Gv tl h hf hi xS) fun r ⟨g1,g2⟩=>?_
 obtain ⟨q,J1⟩:=r
 simp only at g1 g2
 subst g1
 refine bZ ?_
 exact U.2 ⟨rfl,g2⟩
theorem yF {i:Nat} {ws:List Int} {hd:Hd} (ho:L.ob i=some ws) (hi:i∉L.H) (k:hd.ok) (hl:0<ws.length) (hw:ws.getD 0 0=(hd.word:Int)) (hn:hs.length<1000):Ok (zG [.p (some (.n eb,0)),.i .u64 (nD i)] J) fun r=>r.1=.i .u64 (nD i)/\∃ M' S' w' Z',bd f Tw r.2 eb sb nb lb pb mb M' S' w' (L.met i ws (hd.aI.word:Int)) T X Y aW v ot (hs++[hd.aI]) Z'/\Alike S S'/\dp Y M M' 18 0 0/\aw X J r.2:=by
 have a1:=jF J (h.t.s.vR ho)
 have z1:((2:Int) == 1)=false:=rfl
 have z2:((2:Int) == 2)=true:=rfl
 (unfold zG Vh;refine jE a1 z1 z2 ?_)
 refine Ok.step (Gw tl h hf ho hi k hl hw hn) fun r ⟨g1,g2⟩=>?_
 obtain ⟨q,J1⟩:=r
 simp only at g1 g2
 subst g1
 refine bZ ?_
 exact U.2 ⟨rfl,g2⟩
end
end Go.Abs.Tryz
set_option maxHeartbeats 1000000
namespace Go.Abs.Tryz
open Go Go.Abs
variable {O:Type}
structure DO where
 h:Hd
 P:List Int
 R:List Int
 at_:Nat
def DO.n (d:DO):Nat:=1+d.P.length+d.R.length
def DO.ws (d:DO):List Int:=(d.h.word:Int)::(d.P++d.R)
def DO.to (d:DO) (t:Nat):Int:=if d.h.l then nD t else m8 t
def DO.ref (d:DO):Int:=d.to d.at_
def DO.ob (d:DO):Ob:=⟨d.h.l,d.at_,d.n⟩
def DO.aI (d:DO):DO:={d with h:=d.h.aI}
theorem DO.Xk (d:DO):d.ob.ref=d.ref:=rfl
theorem DO.Na (d:DO):d.ws.length=d.n:=by simp [DO.ws,DO.n];omega
structure DO.ok (d:DO):Prop where
 h:d.h.ok
 p:d.h.p=d.P.length
 r:d.h.r=d.R.length
theorem DO.ok.size {d:DO} (h:d.ok):d.h.size=d.n:=by unfold Hd.size DO.n;rw [h.p,h.r]
theorem DO.ti (d:DO):d.aI.ws=d.ws.set 0 (d.h.aI.word:Int):=rfl
theorem DO.ok.aI {d:DO} (h:d.ok):d.aI.ok:=⟨h.h.aI,h.p,h.r⟩
def dT (g:Nat->Nat):Nat->Nat
 |0=>0
 |n+1=>dT g n+g n
theorem gP {g g':Nat->Nat}:∀ {n:Nat},(∀ j,j<n->g' j=g j)->dT g' n=dT g n
 |0,_=>rfl
 |n+1,h=>by simp only [dT];rw [gP fun j hj=>h j (by omega),h n (by omega)]
theorem pY {g g':Nat->Nat}:∀ {n:Nat},(∀ j,j<n->g' j<=g j)->dT g' n<=dT g n
 |0,_=>Nat.le_refl _
 |n+1,h=>by
  simp only [dT]
  have:=pY (n:=n) fun j hj=>h j (by omega)
  have:=h n (by omega)
  omega
theorem ki {g g':Nat->Nat} {i:Nat} (ho:∀ j,j≠i->g' j=g j):∀ {n:Nat},i<n->dT g' n+g i=dT g n+g' i
 |0,h=>by omega
 |n+1,h=>by
  simp only [dT]
  by_cases c:i=n
  ·subst c
   rw [gP fun j hj=>ho j (by omega)];omega
  ·have:=ki ho (n:=n) (by omega)
   have:=ho n (by omega)
   omega
def vm (Ds:List DO) (i:Nat):Nat:=match Ds[i]? with |some d=>if d.h.l then 0 else d.n |none=>0
def lJ (Ds:List DO) (now:Nat->Option Nat) (i:Nat):Nat:=if (now i).isSome then vm Ds i else 0
def cW (now:Nat->Option Nat) (i t:Nat):Nat->Option Nat:=fun j=>if j=i then some t else now j
theorem uK {ws v:List Int} {top at_ n:Nat} (h1:at_+n<=v.length) (h2:top+n<=ws.length) (j:Nat):(gv ws v top at_ n).getD j 0=if top<=j/\j<top+n then v.getD (at_+(j - top)) 0 else ws.getD j 0:=by
 have hl:((v.drop at_).take n).length=n:=by simp;omega
 unfold gv cu
 simp only [List.getD_eq_getElem?_getD]
 rw [hl]
 by_cases c:top<=j/\j<top+n
 ·rw [if_pos c,List.getElem?_append_left (by simp;omega),List.getElem?_append_right (by simp;omega),List.getElem?_take_of_lt (by simp;omega),List.getElem?_drop]
  congr 2
  simp
  omega
 ·rw [if_neg c]
  by_cases c2:j<top
  ·rw [List.append_assoc,List.getElem?_append_left (by simp;omega),List.getElem?_take_of_lt c2]
  ·rw [List.getElem?_append_right (by simp;omega),List.getElem?_drop]
   congr 2
   simp
   omega
theorem getD_set_ne {l:List Int} {i j:Nat} {x:Int} (h:i≠j):(l.set i x).getD j 0=l.getD j 0:=by
 simp only [List.getD_eq_getElem?_getD];rw [List.getElem?_set_ne h]
theorem cf {l:List Int} {i:Nat} {x:Int} (h:i<l.length):(l.set i x).getD i 0=x:=by
 simp only [List.getD_eq_getElem?_getD];rw [List.getElem?_set_self h];rfl
structure EV (Ds:List DO) (now:Nat->Option Nat) (L:aP) (T:bn) (v:List Int) (ot:Nat):Prop where
 ok:∀ d∈Ds,d.ok
 sm:∀ d∈Ds,d.h.l=false->d.at_+d.n<=ot
 ap:∀ (i j:Nat) (a b:DO),i<j->Ds[i]? = some a->Ds[j]? = some b->a.h.l=b.h.l->if a.h.l then a.at_≠b.at_ else a.at_+a.n<=b.at_
 vl:ot<=v.length
 top:T.top=dT (lJ Ds now) Ds.length
 Jj:ot=dT (vm Ds) Ds.length
 wl:T.ws.length=ot
 s0:∀ i d,Ds[i]? = some d->d.h.l=false->now i=none->∀ k,k<d.n->v.getD (d.at_+k) 0=d.ws.getD k 0
 s1:∀ i d t,Ds[i]? = some d->d.h.l=false->now i=some t->v.getD d.at_ 0=fwd t/\t+d.n<=T.top/\∀ k,k<d.n->T.ws.getD (t+k) 0=d.aI.ws.getD k 0
 l0:∀ i d,Ds[i]? = some d->d.h.l=true->now i=none->d.at_∉L.H/\L.ob d.at_=some d.ws
 l1:∀ i d t,Ds[i]? = some d->d.h.l=true->now i=some t->t=d.at_/\d.at_∈L.H/\L.ob d.at_=some d.aI.ws
 inj:∀ i j a b t,Ds[i]? = some a->Ds[j]? = some b->a.h.l=false->b.h.l=false->now i=some t->now j=some t->i=j
section
variable {Ds:List DO} {now:Nat->Option Nat} {L:aP} {T:bn} {v:List Int} {ot:Nat} (e:EV Ds now L T v ot)
include e
theorem EV.apart {i j:Nat} {a b:DO} (pj:i≠j) (ha:Ds[i]? = some a) (hb:Ds[j]? = some b) (hl:a.h.l=b.h.l):if a.h.l then a.at_≠b.at_ else a.at_+a.n<=b.at_ ∨ b.at_+b.n<=a.at_:=by
 by_cases c:i<j
 ·have:=e.ap i j a b c ha hb hl
  split at this
  ·next g=>rw [if_pos g];exact this
  ·next g=>rw [if_neg g];exact .inl this
 ·have:=e.ap j i b a (by omega) hb ha hl.symm
  rw [<-hl] at this
  split at this
  ·next g=>rw [if_pos g];exact fun q=>this q.symm
  ·next g=>rw [if_neg g];exact .inr this
theorem EV.room {i:Nat} {d:DO} (hd:Ds[i]? = some d) (hl:d.h.l=false) (hn:now i=none):T.top+d.n<=ot:=by
 have hi:=(List.getElem?_eq_some_iff.1 hd).1
 have h1:∀ j,j≠i->lJ Ds (cW now i 0) j=lJ Ds now j:=fun j hj=>by unfold lJ cW;rw [if_neg hj]
 have h2:=ki h1 hi
 have h3:lJ Ds now i=0:=by unfold lJ;rw [hn];rfl
 have h4:lJ Ds (cW now i 0) i=d.n:=by unfold lJ cW vm;rw [if_pos rfl,hd];simp [hl]
 have h5:dT (lJ Ds (cW now i 0)) Ds.length<=dT (vm Ds) Ds.length:=pY fun j _=>by unfold lJ;split<;>omega
 rw [e.top,e.Jj]
 omega
theorem EV.CP {i:Nat} {d:DO} (hd:Ds[i]? = some d) (hn:now i=none) (t:Nat):dT (lJ Ds (cW now i t)) Ds.length=T.top+if d.h.l then 0 else d.n:=by
 have hi:=(List.getElem?_eq_some_iff.1 hd).1
 have h1:∀ j,j≠i->lJ Ds (cW now i t) j=lJ Ds now j:=fun j hj=>by unfold lJ cW;rw [if_neg hj]
 have h2:=ki h1 hi
 have h3:lJ Ds now i=0:=by unfold lJ;rw [hn];rfl
 have h4:lJ Ds (cW now i t) i=if d.h.l then 0 else d.n:=by unfold lJ cW vm;rw [if_pos rfl,hd];simp
 rw [e.top]
 omega
theorem EV.small {i:Nat} {d:DO} (hd:Ds[i]? = some d) (hl:d.h.l=false) (hn:now i=none):EV Ds (cW now i T.top) L {T with ws:=(gv T.ws v T.top d.at_ d.n).set T.top (d.h.aI.word:Int),top:=T.top+d.n} (v.set d.at_ (fwd T.top)) ot:=by
 have hm:=List.mem_of_getElem? hd
 have hr:=e.room hd hl hn
 have hs:=e.sm d hm hl
 have Qk:=e.vl
 have BD:=e.wl
 have n1:1<=d.n:=by unfold DO.n;omega
 have UM:=uK (ws:=T.ws) (v:=v) (top:=T.top) (at_:=d.at_) (n:=d.n) (by omega) (by omega)
 have hml:(gv T.ws v T.top d.at_ d.n).length=T.ws.length:=eW (by simp;omega)
 have qI:∀ j b,j≠i->Ds[j]? = some b->b.h.l=false->∀ k,k<b.n->d.at_≠b.at_+k:=fun j b hj hb cy k hk=>by
  have:=e.apart hj hb hd (by rw [cy,hl])
  rw [cy] at this
  simp only [Bool.false_eq_true,if_false] at this
  omega
 refine ⟨e.ok,e.sm,e.ap,by rw [List.length_set];exact Qk,?_,e.Jj,by simp only [List.length_set,hml];exact BD,?_,?_,?_,?_,?_⟩
 ·rw [e.CP hd hn,hl];rfl
 ·intro j b hb cy hj k hk
  have bV:j≠i:=fun q=>by subst q;simp [cW] at hj
  rw [getD_set_ne (qI j b bV hb cy k hk)]
  exact e.s0 j b hb cy (by simpa [cW,bV] using hj) k hk
 ·intro j b t hb cy hj
  by_cases bV:j=i
  ·subst bV
   rw [hd] at hb;cases hb
   simp [cW] at hj
   subst hj
   refine ⟨cf (by omega),Nat.le_refl _,fun k hk=>?_⟩
   simp only
   rw [DO.ti]
   by_cases LS:k=0
   ·subst LS
    rw [Nat.add_zero,cf (by omega),cf (by rw [d.Na];omega)]
   ·rw [getD_set_ne (by omega),getD_set_ne (by omega),UM,if_pos (by omega),show d.at_+(T.top+k - T.top)=d.at_+k by omega]
    exact e.s0 j d hd hl hn k hk
  ·obtain ⟨q1,q2,q3⟩:=e.s1 j b t hb cy (by simpa [cW,bV] using hj)
   have o0:=qI j b bV hb cy 0 (by unfold DO.n;omega)
   rw [Nat.add_zero] at o0
   refine ⟨by rw [getD_set_ne o0];exact q1,by simp only;omega,fun k hk=>?_⟩
   simp only
   rw [getD_set_ne (by omega),UM,if_neg (by omega)]
   exact q3 k hk
 ·intro j b hb cy hj
  have bV:j≠i:=fun q=>by subst q;simp [cW] at hj
  exact e.l0 j b hb cy (by simpa [cW,bV] using hj)
 ·intro j b t hb cy hj
  have bV:j≠i:=fun q=>by subst q;rw [hd] at hb;cases hb;rw [hl] at cy;cases cy
  exact e.l1 j b t hb cy (by simpa [cW,bV] using hj)
 ·intro j k a b t ha hb eT cy hj hk
  by_cases bV:j=i
  ·by_cases th:k=i
   ·rw [bV,th]
   ·exfalso
    simp [cW,bV] at hj
    have:=(e.s1 k b t hb cy (by simpa [cW,th] using hk)).2.1
    have:1<=b.n:=by unfold DO.n;omega
    omega
  ·by_cases th:k=i
   ·exfalso
    simp [cW,th] at hk
    have:=(e.s1 j a t ha eT (by simpa [cW,bV] using hj)).2.1
    have:1<=a.n:=by unfold DO.n;omega
    omega
   ·exact e.inj j k a b t ha hb eT cy (by simpa [cW,bV] using hj) (by simpa [cW,th] using hk)
theorem EV.eu {i:Nat} {d:DO} (hd:Ds[i]? = some d) (hl:d.h.l=true) (hn:now i=none):EV Ds (cW now i d.at_) (L.met d.at_ d.ws (d.h.aI.word:Int)) T v ot:=by
 have qI:∀ j b,j≠i->Ds[j]? = some b->b.h.l=true->b.at_≠d.at_:=fun j b hj hb cy=>by
  have:=e.apart hj hb hd (by rw [cy,hl])
  rw [cy] at this
  simpa using this
 refine ⟨e.ok,e.sm,e.ap,e.vl,?_,e.Jj,e.wl,?_,?_,?_,?_,?_⟩
 ·rw [e.CP hd hn,hl];rfl
 ·intro j b hb cy hj
  have bV:j≠i:=fun q=>by subst q;simp [cW] at hj
  exact e.s0 j b hb cy (by simpa [cW,bV] using hj)
 ·intro j b t hb cy hj
  have bV:j≠i:=fun q=>by subst q;rw [hd] at hb;cases hb;rw [hl] at cy;cases cy
  exact e.s1 j b t hb cy (by simpa [cW,bV] using hj)
 ·intro j b hb cy hj
  have bV:j≠i:=fun q=>by subst q;simp [cW] at hj
  obtain ⟨q1,q2⟩:=e.l0 j b hb cy (by simpa [cW,bV] using hj)
  have:=qI j b bV hb cy
  refine ⟨?_,?_⟩
  ·simp only [aP.met,List.mem_append,List.mem_singleton]
   rintro (g |g)
   ·exact q1 g
   ·exact this g
  ·simp only [aP.met];rw [if_neg this];exact q2
 ·intro j b t hb cy hj
  by_cases bV:j=i
  ·subst bV
   rw [hd] at hb;cases hb
   simp [cW] at hj
   refine ⟨hj.symm,by simp [aP.met],?_⟩
   simp only [aP.met,if_true]
   rw [DO.ti]
  ·obtain ⟨q1,q2,q3⟩:=e.l1 j b t hb cy (by simpa [cW,bV] using hj)
   have:=qI j b bV hb cy
   refine ⟨q1,by simp [aP.met,q2],?_⟩
   simp only [aP.met];rw [if_neg this];exact q3
 ·intro j k a b t ha hb eT cy hj hk
  have bV:j≠i:=fun q=>by subst q;rw [hd] at ha;cases ha;rw [hl] at eT;cases eT
  have th:k≠i:=fun q=>by subst q;rw [hd] at hb;cases hb;rw [hl] at cy;cases cy
  exact e.inj j k a b t ha hb eT cy (by simpa [cW,bV] using hj) (by simpa [cW,th] using hk)
end
section
variable {f:Fn × List AV × List AV} {Tw:List Hd->AH O->List Nat->Prop} (tl:eL f Tw) {J:AH O} {eb sb nb lb pb mb:Nat} {M:ah} {S:ao} {w:List Int} {L:aP} {T:bn} {X Z:List Nat} {aW:Int} {v:List Int} {ot:Nat} {hs:List Hd} (h:bd f Tw J eb sb nb lb pb mb M S w L T X [] aW v ot hs Z) (hf:M.cT 100000) {Ds:List DO} {now:Nat->Option Nat} (e:EV Ds now L T v ot)
include tl h hf e
end
end Go.Abs.Tryz
