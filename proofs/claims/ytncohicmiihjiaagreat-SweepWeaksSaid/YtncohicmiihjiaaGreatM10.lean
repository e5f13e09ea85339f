/-
  Layer 10: a pool of entries. No conditions.
-/
import Derived.Test.YtncohicmiihjiaaGreatM7
set_option linter.unusedVariables false
set_option linter.unusedSimpArgs false
set_option linter.constructorNameAsVariable false
set_option linter.unusedSimpArgs false
set_option linter.unusedVariables false
set_option linter.unusedSectionVars false
set_option maxHeartbeats 1000000
namespace Go.Abs.Tryz
open Go Go.Abs
variable {O:Type}
section
variable {α:Type} {enc:α->List Int} {k:Nat} {l:List α} {i:Nat} {e:α}
theorem CT (hk:∀ x∈l,(enc x).length=k):(l.flatMap enc).length=l.length*k:=by
 induction l with
 |nil=>simp
 |cons x l ih=>
  have:=ih fun y hy=>hk y (List.mem_cons_of_mem _ hy)
  have:=hk x List.mem_cons_self
  simp only [List.flatMap_cons,List.length_append,List.length_cons,Nat.succ_mul];omega
theorem uM (h:l[i]? = some e):l.flatMap enc=(l.take i).flatMap enc++(enc e++(l.drop (i+1)).flatMap enc):=by
 obtain ⟨hi,he⟩:=List.getElem?_eq_some_iff.1 h
 have:l=l.take i++e::l.drop (i+1):=by rw [<-he,<-List.drop_eq_getElem_cons hi,List.take_append_drop]
 conv=>lhs;rw [this]
 simp
theorem Jv (h:l[i]? = some e) (y:α):(l.set i y).flatMap enc=(l.take i).flatMap enc++(enc y++(l.drop (i+1)).flatMap enc):=by
 obtain ⟨hi,he⟩:=List.getElem?_eq_some_iff.1 h
 rw [List.set_eq_take_append_cons_drop,if_pos hi]
 simp
theorem yG (hk:∀ x∈l,(enc x).length=k) (h:l[i]? = some e):((l.take i).flatMap enc).length=i*k:=by
 rw [CT (k:=k) fun x hx=>hk x (List.mem_of_mem_take hx),List.length_take]
 have:=(List.getElem?_eq_some_iff.1 h).1
 rw [Nat.min_eq_left (by omega)]
theorem Jw (hk:∀ x∈l,(enc x).length=k) (h:l[i]? = some e) {j:Nat} (hj:j<k) (z:List Int):(l.flatMap enc++z)[i*k+j]? = (enc e)[j]? := by
 have h1:=yG hk h
 have h2:=hk e (List.mem_of_getElem? h)
 rw [uM h,List.append_assoc,List.getElem?_append_right (by omega),h1,Nat.add_sub_cancel_left,List.append_assoc,List.getElem?_append_left (by omega)]
theorem CU (hk:∀ x∈l,(enc x).length=k) (h:l[i]? = some e) {j:Nat} (hj:j<k) (z:List Int) {x:Int} {y:α} (hy:enc y=(enc e).set j x):(l.flatMap enc++z).set (i*k+j) x=(l.set i y).flatMap enc++z:=by
 have h1:=yG hk h
 have h2:=hk e (List.mem_of_getElem? h)
 rw [uM h,Jv h,hy,List.append_assoc,List.set_append_right _ _ (by omega),h1,Nat.add_sub_cancel_left,List.append_assoc,List.set_append_left _ _ (by omega)]
 simp
theorem Jy (hk:∀ x∈l,(enc x).length=k) (h:l[i]? = some e) {j:Nat} (z:List Int) {v:List Int} {y:α} (hj:j+v.length<=k) (hy:enc y=cu (enc e) j v):cu (l.flatMap enc++z) (i*k+j) v=(l.set i y).flatMap enc++z:=by
 have h1:=yG hk h
 have h2:=hk e (List.mem_of_getElem? h)
 rw [uM h,Jv h,hy]
 generalize (l.take i).flatMap enc=A at*
 generalize (l.drop (i+1)).flatMap enc=B at*
 generalize enc e=E at*
 unfold cu
 have e1:A++(E++B)++z=A++(E++(B++z)):=by simp
 rw [e1,<-h1,List.take_append,List.take_of_length_le (by omega),Nat.add_sub_cancel_left,List.take_append_of_le_length (by omega)]
 rw [show A.length+j+v.length=A.length+(j+v.length) by omega,List.drop_append,List.drop_eq_nil_of_le (show A.length<=A.length+(j+v.length) by omega),Nat.add_sub_cancel_left,List.drop_append_of_le_length (by omega)]
 simp
end
theorem Xs (n:Int):Int.fdiv n (2 ^ 1)=n / 2:=Int.fdiv_eq_ediv_of_nonneg _ (by decide)
structure PE where
 tk:Bool
 gen:Nat
 ws:List Int
def PE.st (e:PE):Int:=2*(e.gen:Int)+(if e.tk then 1 else 0)
def PE.enc (e:PE):List Int:=e.st::e.ws
structure ao where
 id:Int
 words:Nat
 room:Nat
 E:List PE
 free:List Nat
 taken:Nat
def hd (l:List Nat):Nat:=match l with | []=>0 |i::_=>i
def ao.cells (S:ao) (mb:Nat):List AV:=[.p (some (.n mb,0)),.i .i64 S.id,.i .i64 (S.words:Int),.i .i64 (S.E.length:Int),.i .i64 (S.room:Int),.i .i64 (hd S.free:Int),.i .i64 (S.taken:Int)]
def mE (E:List PE):List Nat->Prop
 |[]=>True
 |i::r=>(∃ e,1<=i/\E[i - 1]? = some e/\e.tk=false/\e.ws[0]? = some (hd r:Int))/\mE E r
structure gR (S:ao) (w:List Int):Prop where
 words:1<=S.words/\S.words<=60
 lay:w=S.E.flatMap PE.enc++List.replicate ((S.room - S.E.length)*(S.words+1)) 0
 made:S.E.length<=S.room
 pow:S.room=0 ∨ ∃ k:Nat,S.room=8*2 ^ k
 wl:∀ e∈S.E,e.ws.length=S.words
 ch:mE S.E S.free
 nd:S.free.Nodup
 D1:S.taken=S.E.countP (·.tk)
 gen:∀ e∈S.E,e.gen<4611686018427387904
structure aN (J:AH O) (pb mb:Nat) (M:ah) (S:ao) (w:List Int) (X:List Nat):Prop where
 mi:bu J mb M (pb::X)
 b:J.aa pb=some (.cells true US (S.cells mb))
 nx:pb∉X
 now:ak M.sp S.id=some w
 p:gR S w
theorem gR.el {S:ao} {w:List Int} (h:gR S w):∀ e∈S.E,e.enc.length=S.words+1:=fun e he=>by simp [PE.enc,h.wl e he]
theorem gR.len {S:ao} {w:List Int} (h:gR S w):w.length=S.room*(S.words+1):=by
 have:=h.made
 rw [h.lay,List.length_append,CT h.el,List.length_replicate,<-Nat.add_mul,Nat.add_sub_cancel' h.made]
theorem gR.st {S:ao} {w:List Int} (h:gR S w) {i:Nat} {e:PE} (he:S.E[i]? = some e):w[i*(S.words+1)]? = some e.st:=by
 have:=Jw h.el he (j:=0) (by omega) (List.replicate ((S.room - S.E.length)*(S.words+1)) 0)
 rw [<-h.lay,Nat.add_zero] at this
 rw [this];rfl
theorem gR.at {S:ao} {w:List Int} (h:gR S w) {i:Nat} {e:PE} (he:S.E[i]? = some e) {k:Nat} (hk:k<S.words):w[i*(S.words+1)+1+k]? = e.ws[k]? := by
 have:=Jw h.el he (j:=k+1) (by omega) (List.replicate ((S.room - S.E.length)*(S.words+1)) 0)
 rw [<-h.lay,show i*(S.words+1)+(k+1)=i*(S.words+1)+1+k by omega] at this
 rw [this];rfl
theorem gR.pos {S:ao} {w:List Int} (h:gR S w) {i:Nat} {e:PE} (he:S.E[i]? = some e):i*(S.words+1)+(S.words+1)<=w.length:=by
 have hi:=(List.getElem?_eq_some_iff.1 he).1
 have:=h.made
 rw [h.len,<-Nat.succ_mul]
 exact Nat.mul_le_mul_right _ (by omega)
theorem gR.set {S:ao} {w w':List Int} (h:gR S w) {i:Nat} {e e':PE} (he:S.E[i]? = some e) {free':List Nat} {taken':Nat} (hw:w'=(S.E.set i e').flatMap PE.enc++List.replicate ((S.room - S.E.length)*(S.words+1)) 0)
  (hl:e'.ws.length=S.words) (hg:e'.gen<4611686018427387904) (hc:mE (S.E.set i e') free') (hn:free'.Nodup) (ht:taken'=(S.E.set i e').countP (·.tk)):gR {S with E:=S.E.set i e',free:=free',taken:=taken'} w':=by
 refine ⟨h.words,?_,?_,h.pow,fun x hx=>?_,hc,hn,ht,fun x hx=>?_⟩
 ·show w'=(S.E.set i e').flatMap PE.enc++List.replicate ((S.room - (S.E.set i e').length)*(S.words+1)) 0
  rw [List.length_set];exact hw
 ·show (S.E.set i e').length<=_
  rw [List.length_set];exact h.made
 ·rcases fV hx with rfl |hx
  ·exact hl
  ·exact h.wl x hx
 ·rcases fV hx with rfl |hx
  ·exact hg
  ·exact h.gen x hx
theorem kM {E:List PE} {i:Nat} {e':PE}:∀ {fr:List Nat},mE E fr->(∀ j∈fr,j≠i+1)->mE (E.set i e') fr
 |[],_,_=>trivial
 |j::r,⟨⟨e,h1,h2,h3,h4⟩,h5⟩,hn=>⟨⟨e,h1,by rw [List.getElem?_set,if_neg (by have:=hn j List.mem_cons_self;omega)];exact h2,h3,h4⟩,kM h5 fun k hk=>hn k (List.mem_cons_of_mem _ hk)⟩
theorem uN {E:List PE} {e':PE}:∀ {fr:List Nat},mE E fr->mE (E++[e']) fr
 |[],_=>trivial
 |j::r,⟨⟨e,h1,h2,h3,h4⟩,h5⟩=>⟨⟨e,h1,by rw [List.getElem?_append_left (List.getElem?_eq_some_iff.1 h2).1];exact h2,h3,h4⟩,uN h5⟩
theorem rq {E:List PE}:∀ {fr:List Nat},mE E fr->∀ j∈fr,∃ e,1<=j/\E[j - 1]? = some e/\e.tk=false
 |_::_,⟨⟨e,h1,h2,h3,_⟩,h5⟩,k,hk=>by
  rcases List.mem_cons.1 hk with rfl |hk
  ·exact ⟨e,h1,h2,h3⟩
  ·exact rq h5 k hk
theorem Jz {e:PE} (h:e.gen<4611686018427387904):0<=e.st/\e.st<9223372036854775808:=by unfold PE.st;split<;>omega
theorem Se {e:PE}:e.st / 2=e.gen:=by unfold PE.st;split<;>omega
theorem Qn {e:PE}:e.st % 2=if e.tk then 1 else 0:=by unfold PE.st;split<;>omega
section
variable {J:AH O} {pb mb:Nat} {M:ah} {S:ao} {w:List Int} {X:List Nat} (h:aN J pb mb M S w X)
include h
theorem aN.ext {J':AH O} (he:Ext J J'):aN J' pb mb M S w X:={h with mi:=h.mi.ext he,b:=(he.aa _ (h.mi.lt _ List.mem_cons_self)).trans h.b}
theorem aN.new {J':AH O} (he:Ext J J') {b:Nat} (h1:J.next<=b) (h2:b<J'.next):aN J' pb mb M S w (b::X):=
 {h.ext he with mi:=(h.mi.new he h1 h2).mono (fun c hc=>by simp only [List.mem_cons] at hc ⊢;rcases hc with rfl |rfl |hc<;>simp_all),nx:=(fun hm=>(List.mem_cons.1 hm).elim (fun e=>by have:=h.mi.lt _ List.mem_cons_self;omega) h.nx)}
theorem aN.mono {Y:List Nat} (hs:∀ b∈Y,b∈X):aN J pb mb M S w Y:={h with mi:=h.mi.mono (fun c hc=>(List.mem_cons.1 hc).elim (fun e=>by rw [e];exact List.mem_cons_self) fun hc=>List.mem_cons_of_mem _ (hs c hc)),nx:=fun hm=>h.nx (hs _ hm)}
theorem aN.lt:pb<J.next:=h.mi.lt _ List.mem_cons_self
theorem aN.L9:w.length<=4194304:=h.mi.uO h.now
theorem ru:Qo [.p (some (.n pb,0))] J=some (.i .i64 ((S.words:Int)+1),J):=by
 have hb:=h.b
 have hw:=h.p.words
 simp only [ao.cells] at hb
 (unfold Qo qep;exact IU hb)
theorem CV {i:Nat} {k:Int} (hi:i*(S.words+1)<=4194304) (MW:i<=4194304) (hk : -1<=k/\k<=100):Hw [.p (some (.n pb,0)),.i .i64 ((i:Int)+1),.i .i64 k] J=some (.i .i64 (((i*(S.words+1):Nat):Int)+1+k),J):=by
 have wd:=ru h
 have hw:=h.p.words
 have e1:(i:Int)+1 - 1=i:=by omega
 have e2:(i:Int)*((S.words:Int)+1)=((i*(S.words+1):Nat):Int):=by simp
 generalize i*(S.words+1)=P at*
 (unfold Hw qe9;exact Qd wd e1 e2)
end
section
variable {J:AH O} {pb mb:Nat} {M:ah} {S:ao} {w:List Int} {X:List Nat} (h:aN J pb mb M S w X) (hc:M.calm)
include h hc
theorem AI {i:Nat} {e:PE} (he:S.E[i]? = some e):
  Ok (UT [.p (some (.n pb,0)),.i .i64 ((i:Int)+1)] J) fun q=>q.1=.aB [.i .u64 e.st,.b true]/\∃ M',aN q.2 pb mb M' S w X/\fE M M' S.id w 1 0/\aw X J q.2:=by
 have hb:=h.b
 simp only [ao.cells] at hb
 have hi:=(List.getElem?_eq_some_iff.1 he).1
 have hp:=h.p.pos he
 have BD:=h.L9
 have jD:=h.p.st he
 have hlen:=h.p.len
 have hw:=h.p.words
 have MW:i<=4194304:=by
  have h1:i*1<=i*(S.words+1):=Nat.mul_le_mul_left _ (by omega)
  omega
 have pa:=CV h (i:=i) (k := -1) (by omega) MW ⟨by omega,by omega⟩
 have e1:(((i*(S.words+1):Nat):Int)+1 + -1)=((i*(S.words+1):Nat):Int):=by omega
 rw [e1] at pa
 generalize i*(S.words+1)=P at*
 (unfold UT qgx;refine gh hb pa ?_)
 refine Ok.step (AJ h.mi hc h.now (at_:=(P:Int)) (by omega) (by omega)) fun q ⟨p1,M1,p2,p3,p4⟩=>?_
 obtain ⟨q,J1⟩:=q
 simp only at p1 p2 p4
 rw [Int.toNat_natCast,List.getD_eq_getElem?_getD,jD] at p1
 simp only [Option.getD_some] at p1
 subst p1
 refine bZ ?_
 exact U.2 ⟨rfl,M1,{h with mi:=p2,b:=p4.head.trans h.b,now:=p3.words h.now},p3,p4.tail⟩
theorem xg {i:Nat} {e:PE} (he:S.E[i]? = some e):
  Ok (Xt [.p (some (.n pb,0)),.i .i64 ((i:Int)+1)] J) fun q=>q.1=.b e.tk/\∃ M',aN q.2 pb mb M' S w X/\fE M M' S.id w 1 0/\aw X J q.2:=by
 have hg:=Jz (h.p.gen e (List.mem_of_getElem? he))
 have e1:(bG .and .u64 e.st 1 == 1)=e.tk:=by
  rw [zS hg.1 (by omega),Qn]
  cases e.tk<;>rfl
 (unfold Xt qg2;refine bZ ?_)
 refine Ok.step (AI h hc he) fun q ⟨p1,p2⟩=>?_
 obtain ⟨q,J1⟩:=q
 simp only at p1 p2
 subst p1
 refine cw e1 ?_
 exact U.2 ⟨rfl,p2⟩
theorem Es {i:Nat} {e:PE} (he:S.E[i]? = some e):
  Ok (Xu [.p (some (.n pb,0)),.i .i64 ((i:Int)+1)] J) fun q=>q.1=.i .i64 (e.gen:Int)/\∃ M',aN q.2 pb mb M' S w X/\fE M M' S.id w 1 0/\aw X J q.2:=by
 have hg:=h.p.gen e (List.mem_of_getElem? he)
 have e1:Int.fdiv e.st (2 ^ 1)=e.gen:=by rw [Xs,Se]
 (unfold Xu qvk;refine bZ ?_)
 refine Ok.step (AI h hc he) fun q ⟨p1,p2⟩=>?_
 obtain ⟨q,J1⟩:=q
 simp only at p1 p2
 subst p1
 refine cw e1 ?_
 exact U.2 ⟨rfl,p2⟩
end
end Go.Abs.Tryz
namespace Go.Abs.Tryz
open Go Go.Abs
variable {O:Type}
theorem JA {J:AH O} {pb mb:Nat} {S:ao} (hb:J.aa pb=some (.cells true US (S.cells mb))) (hw:1<=S.words/\S.words<=60) {i:Nat} {k:Int} (hi:i*(S.words+1)<=4194304) (MW:i<=4194304) (hk : -1<=k/\k<=100):
  Hw [.p (some (.n pb,0)),.i .i64 ((i:Int)+1),.i .i64 k] J=some (.i .i64 (((i*(S.words+1):Nat):Int)+1+k),J):=by
 simp only [ao.cells] at hb
 have wd:Qo [.p (some (.n pb,0))] J=some (.i .i64 ((S.words:Int)+1),J):=by (unfold Qo qep;exact IU hb)
 have e1:(i:Int)+1 - 1=i:=by omega
 have e2:(i:Int)*((S.words:Int)+1)=((i*(S.words+1):Nat):Int):=by simp
 generalize i*(S.words+1)=P at*
 (unfold Hw qe9;exact Qd wd e1 e2)
def ao.more (S:ao):Nat:=if S.E.length<S.room then S.room else max 8 (2*S.room)
def PE.fresh (n:Nat):PE:=⟨true,0,List.replicate n 0⟩
section
variable {J:AH O} {pb mb:Nat} {M:ah} {S:ao} {w:List Int} {X:List Nat} (h:aN J pb mb M S w X) (hc:M.calm)
include h hc
theorem JB (hE:S.E.length<1048576) (hR:S.more*(S.words+1)<=4194304):
  Ok (Xv [.p (some (.n pb,0))] J) fun r=>r.1=.i .i64 0/\∃ M' w',aN r.2 pb mb M' {S with room:=S.more} w' X/\fE M M' S.id w' 0 0/\aw X J r.2:=by
 have hb:=h.b
 simp only [ao.cells] at hb
 have bp:=h.lt
 have hlen:=h.p.len
 have Gc:=h.p.made
 have hw:=h.p.words
 by_cases c:S.E.length<S.room
 ·have e:S.more=S.room:=if_pos c
  (unfold Xv qe4;refine cw hb ?_)
  rw [e]
  exact U.2 ⟨rfl,M,w,h,fE.refl h.now,aw.refl _ _⟩
 ·have e:S.more=max 8 (2*S.room):=if_neg c
  have wd:=ru h
  have hr2:S.more*1<=S.more*(S.words+1):=Nat.mul_le_mul_left _ (by omega)
  have e1:(if (2*(S.room:Int)) > 8 then (2*(S.room:Int)) else 8)=(S.more:Int):=by rw [e];split<;>omega
  have e2:(S.more:Int)*((S.words:Int)+1)=((S.more*(S.words+1):Nat):Int):=by simp
  have hge:S.room*(S.words+1)<=S.more*(S.words+1):=Nat.mul_le_mul_right _ (by omega)
  have tS:S.more*(S.words+1) - S.room*(S.words+1)=(S.more - S.room)*(S.words+1):=(Nat.sub_mul _ _ _).symm
  have hrE:S.room=S.E.length:=by omega
  have hrm:S.more<=4194304:=by omega
  have ag1:∃ k:Nat,S.more=8*2 ^ k:=by
   rw [e]
   rcases h.p.pow with g |⟨k,g⟩
   ·exact ⟨0,by omega⟩
   ·have:=Nat.two_pow_pos k
    exact ⟨k+1,by rw [Nat.pow_succ];omega⟩
  generalize hQ:S.more*(S.words+1)=Q at*
  generalize hP:S.room*(S.words+1)=P at*
  generalize hmr:S.more=R at*
  (unfold Xv qe4;refine BA hb wd e1 e2 ?_)
  refine Ok.step (Xw h.mi hc h.now (n:=(Q:Int)) (by omega) (by omega)) fun r ⟨p1,M',p2,p3,p4⟩=>?_
  obtain ⟨q,J1⟩:=r
  simp only at p1 p2 p4
  subst p1
  have cK:J1.aa pb=_:=p4.head.trans hb
  have e0:((0:Int) != 0)=false:=rfl
  refine gh e0 cK ?_
  rw [Int.toNat_natCast,hlen,tS] at p3
  refine U.2 ⟨rfl,M',_,⟨p2.put List.mem_cons_self _,aH,h.nx,p3.words h.now,h.p.words,?_,?_,.inr ag1,h.p.wl,h.p.ch,h.p.nd,h.p.D1,h.p.gen⟩,p3,p4.tail.trans (aw.put h.nx _)⟩
  ·have hl:=h.p.lay
   show w++_=S.E.flatMap PE.enc++List.replicate ((R - S.E.length)*(S.words+1)) 0
   rw [hl,hrE];simp
  ·show S.E.length<=R
   omega
theorem xh (hf:S.free=[]) (hE:S.E.length<1048576) (hR:S.more*(S.words+1)<=4194304) (hmw:M.met.w+100<85070591730234615865843651857942052864):
  Ok (Nu [.p (some (.n pb,0))] J) fun r=>r.1=.aB [.i .i64 ((S.E.length:Int)+1),.i .i64 0]/\∃ M' w',aN r.2 pb mb M' {S with room:=S.more,E:=S.E++[PE.fresh S.words],taken:=S.taken+1} w' X/\fE M M' S.id w' 0 1/\aw X J r.2:=by
 have hb:=h.b
 simp only [ao.cells,hf,hd] at hb
 have bp:=h.lt
 have e00:(((0:Nat):Int) == 0)=true:=rfl
 have e0:((0:Int) != 0)=false:=rfl
 (unfold Nu qgi;refine gh hb e00 ?_)
 refine Ok.step (JB h hc hE hR) fun r ⟨p1,M1,w1,p2,p3,p4⟩=>?_
 obtain ⟨q,J1⟩:=r
 simp only at p1 p2 p4
 subst p1
 have cK:=p2.b
 simp only [ao.cells,hf,hd] at cK
 have JC:=p2.lt
 have qG:=p2.p
 have hlen:=qG.len
 simp only at hlen
 have BD:=p2.L9
 have hw:=h.p.words
 have Gc:=qG.made
 simp only at Gc
 have Sf:S.E.length<S.more:=by have:=h.p.made;unfold ao.more;split<;>omega
 have JD:S.E.length*(S.words+1)+(S.words+1)<=w1.length:=by rw [hlen,<-Nat.succ_mul];exact Nat.mul_le_mul_right _ Sf
 have Sg:S.taken<=S.E.length:=by rw [h.p.D1];exact List.countP_le_length
 refine gh e0 cK ?_
 generalize hJ:J1.put pb (.cells true _ _)=J2
 have fv:J2.aa pb=some (.cells true US (ao.cells {S with room:=S.more,E:=S.E++[PE.fresh S.words]} mb)):=by
  rw [<-hJ,aH];simp [ao.cells,hf,hd]
 have Xx:bu J2 mb M1 (pb::X):=by rw [<-hJ];exact p2.mi.put List.mem_cons_self _
 have k2:aw X J1 J2:=by rw [<-hJ];exact aw.put h.nx _
 clear hJ
 have pa:=JA (i:=S.E.length) (k := -1) fv hw (by show S.E.length*(S.words+1)<=_;omega) (by omega) ⟨by omega,by omega⟩
 simp only at pa
 rw [show ((S.E.length*(S.words+1):Nat):Int)+1 + -1=((S.E.length*(S.words+1):Nat):Int) by omega] at pa
 have Nv:=fv
 simp only [ao.cells,hf,hd,List.length_append,List.length_cons,List.length_nil] at Nv
 refine gh pa Nv ?_
 have hr1:=p3.r
 have yk:=p3.w
 have hcr:=hc.r
 have hcw:=hc.w
 refine Ok.step (yH Xx ⟨by omega,by omega⟩ p2.now (at_:=((S.E.length*(S.words+1):Nat):Int)) (x:=1) (by omega) (by omega)) fun r ⟨q1,M3,q2,q3,q4⟩=>?_
 obtain ⟨q,J3⟩:=r
 simp only at q1 q2 q4
 subst q1
 have mz:J3.aa pb=_:=q4.head.trans Nv
 refine cw mz ?_
 rw [Int.toNat_natCast] at q3
 have jD:w1.set (S.E.length*(S.words+1)) 1=(S.E++[PE.fresh S.words]).flatMap PE.enc++List.replicate ((S.more - (S.E++[PE.fresh S.words]).length)*(S.words+1)) 0:=by
  have hl:=qG.lay
  simp only at hl
  have hfl:=CT qG.el
  simp only at hfl
  rw [hl,List.set_append_right _ _ (by omega),hfl,Nat.sub_self,List.length_append,List.length_singleton]
  have e1:(S.more - S.E.length)*(S.words+1)=S.words+1+(S.more - (S.E.length+1))*(S.words+1):=by
   have:S.more - S.E.length=S.more - (S.E.length+1)+1:=by omega
   rw [this,Nat.succ_mul];omega
  rw [e1,<-List.replicate_append_replicate,List.replicate_succ]
  simp [PE.enc,PE.fresh,PE.st]
 refine U.2 ⟨rfl,M3,_,⟨q2.put List.mem_cons_self _,aH.trans ?_,h.nx,q3.words p2.now,h.p.words,jD,?_,qG.pow,?_,uN h.p.ch,h.p.nd,?_,?_⟩,(p3.trans q3).as rfl (by omega) (by omega),((p4.trans k2).trans q4.tail).trans (aw.put h.nx _)⟩
 ·simp [ao.cells,hf,hd]
 ·simp;omega
 ·intro e he
  rcases List.mem_append.1 he with he |he
  ·exact h.p.wl e he
  ·simp at he;subst he;simp [PE.fresh]
 ·show S.taken+1=_
  rw [List.countP_append,h.p.D1];rfl
 ·intro e he
  rcases List.mem_append.1 he with he |he
  ·exact h.p.gen e he
  ·simp at he;subst he;simp [PE.fresh]
theorem xi {i:Nat} {r:List Nat} (hf:S.free=(i+1)::r) (hm:M.met.r+100<85070591730234615865843651857942052864/\M.met.w+100<85070591730234615865843651857942052864):
  ∃ e,S.E[i]? = some e/\e.tk=false/\Ok (Nu [.p (some (.n pb,0))] J) fun q=>q.1=.aB [.i .i64 ((i:Int)+1),.i .i64 0]/\∃ M' w',aN q.2 pb mb M' {S with E:=S.E.set i ⟨true,e.gen,List.replicate S.words 0⟩,free:=r,taken:=S.taken+1} w' X/\fE M M' S.id w' 2 (1+S.words)/\aw X J q.2:=by
 have Hx:=h.p.ch
 rw [hf] at Hx
 obtain ⟨⟨e,_,he,gj,JE⟩,Xy⟩:=Hx
 rw [Nat.add_sub_cancel] at he
 refine ⟨e,he,gj,?_⟩
 have hnd:=h.p.nd
 rw [hf] at hnd
 have F8:∀ j∈r,j≠i+1:=fun j hj e=>by rw [e] at hj;exact (List.nodup_cons.1 hnd).1 hj
 have hb:=h.b
 simp only [ao.cells,hf,hd] at hb
 have bp:=h.lt
 have JG:=(List.getElem?_eq_some_iff.1 he).1
 have JD:=h.p.pos he
 have BD:=h.L9
 have jD:=h.p.st he
 have hw:=h.p.words
 have hl0:=h.p.at he (k:=0) (by omega)
 rw [JE,Nat.add_zero] at hl0
 have hlen:=h.p.len
 have ag4:=Jz (h.p.gen e (List.mem_of_getElem? he))
 have hr4:hd r<=4194304:=by
  cases r with
  |nil=>exact Nat.zero_le _
  |cons j r'=>
   obtain ⟨⟨e2,h1,h2,_⟩,_⟩:=Xy
   have:=(List.getElem?_eq_some_iff.1 h2).1
   have Gc:=h.p.made
   have h3:S.room*1<=S.room*(S.words+1):=Nat.mul_le_mul_left _ (by omega)
   simp only [hd];omega
 have MW:i<=4194304:=by
  have h1:i*1<=i*(S.words+1):=Nat.mul_le_mul_left _ (by omega)
  omega
 have Sg:S.taken<=S.E.length:=by rw [h.p.D1];exact List.countP_le_length
 have Nw:S.E.length<=4194304:=by
  have Gc:=h.p.made
  have h3:S.room*1<=S.room*(S.words+1):=Nat.mul_le_mul_left _ (by omega)
  omega
 have c1:(((i+1:Nat):Int))=(i:Int)+1:=by omega
 rw [c1] at hb
 have e00:((i:Int)+1 == 0)=false:=by simp;omega
 have e0:((0:Int) != 0)=false:=rfl
 have t0:((i*(S.words+1):Nat):Int)+1+0=((i*(S.words+1)+1:Nat):Int):=by omega
 have t1:((i*(S.words+1):Nat):Int)+1 + -1=((i*(S.words+1):Nat):Int):=by omega
 have at0:∀ {J':AH O},J'.aa pb=some (.cells true US (S.cells mb))->Hw [.p (some (.n pb,0)),.i .i64 ((i:Int)+1),.i .i64 0] J'=some (.i .i64 ((i*(S.words+1)+1:Nat):Int),J'):=fun dI=>by
  rw [<-t0];exact JA (k:=0) dI hw (by omega) MW ⟨by omega,by omega⟩
 have UF:∀ {J':AH O},J'.aa pb=some (.cells true US (S.cells mb))->Hw [.p (some (.n pb,0)),.i .i64 ((i:Int)+1),.i .i64 (-1)] J'=some (.i .i64 ((i*(S.words+1):Nat):Int),J'):=fun dI=>by
  rw [<-t1];exact JA (k := -1) dI hw (by omega) MW ⟨by omega,by omega⟩
 have uP:∀ {J':AH O},J'.aa pb=J.aa pb->J'.aa pb=some (.cells true US (S.cells mb)):=fun h1=>h1.trans h.b
 have Sh:=h.p.lay
 have IE:cu (w.set (i*(S.words+1)) (e.st+1)) (i*(S.words+1)+1) (List.replicate S.words 0)=(S.E.set i ⟨true,e.gen,List.replicate S.words 0⟩).flatMap PE.enc++List.replicate ((S.room - S.E.length)*(S.words+1)) 0:=by
  have s1:=CU h.p.el he (j:=0) (by omega) (List.replicate ((S.room - S.E.length)*(S.words+1)) 0) (x:=e.st+1) (y:=⟨true,e.gen,e.ws⟩) (by simp [PE.enc,PE.st,gj])
  rw [<-Sh,Nat.add_zero] at s1
  rw [s1]
  have lU:(S.E.set i ⟨true,e.gen,e.ws⟩)[i]? = some ⟨true,e.gen,e.ws⟩:=by rw [List.getElem?_set];simp [JG]
  have ag5:∀ x∈S.E.set i ⟨true,e.gen,e.ws⟩,x.enc.length=S.words+1:=fun x hx=>by
   rcases fV hx with rfl |hx
   ·simp [PE.enc,h.p.wl e (List.mem_of_getElem? he)]
   ·exact h.p.el x hx
  have s2:=Jy ag5 lU (j:=1) (List.replicate ((S.room - S.E.length)*(S.words+1)) 0) (v:=List.replicate S.words 0) (y:=⟨true,e.gen,List.replicate S.words 0⟩) (by rw [List.length_replicate];omega) (by
   have:=h.p.wl e (List.mem_of_getElem? he)
   simp [PE.enc,PE.st,cu,<-this];omega)
  rw [s2,List.set_set]
 generalize hP:i*(S.words+1)=P at*
 (unfold Nu qgi;refine jE hb e00 (at0 h.b) ?_)
 refine Ok.step (AJ h.mi hc h.now (at_:=((P+1:Nat):Int)) (by omega) (by omega)) fun q ⟨p1,M1,p2,p3,p4⟩=>?_
 obtain ⟨q,J1⟩:=q
 simp only at p1 p2 p4
 rw [Int.toNat_natCast,List.getD_eq_getElem?_getD,hl0] at p1
 simp only [Option.getD_some] at p1
 subst p1
 have cK:J1.aa pb=_:=p4.head.trans hb
 refine gh cK (UF (uP p4.head)) ?_
 have hr1:=p3.r
 have yk:=p3.w
 refine Ok.step (AJ p2 ⟨by omega,by omega⟩ (p3.words h.now) (at_:=(P:Int)) (by omega) (by omega)) fun q ⟨q1,M2,q2,q3,q4⟩=>?_
 obtain ⟨q,J2⟩:=q
 simp only at q1 q2 q4
 rw [Int.toNat_natCast,List.getD_eq_getElem?_getD,jD] at q1
 simp only [Option.getD_some] at q1
 subst q1
 have fv:J2.aa pb=_:=q4.head.trans cK
 have e5:bG .or .u64 e.st 1=e.st+1:=B3 ag4.1 (by omega) (by rw [Qn,gj];rfl)
 refine jE fv (UF (uP (q4.head.trans p4.head))) e5 ?_
 have hr2:=q3.r
 have UL:=q3.w
 refine Ok.step (yH q2 ⟨by omega,by omega⟩ (q3.words (p3.words h.now)) (at_:=(P:Int)) (x:=e.st+1) (by omega) (by omega)) fun q ⟨m1,M3,m2,m3,m4⟩=>?_
 obtain ⟨q,J3⟩:=q
 simp only at m1 m2 m4
 subst m1
 have mz:J3.aa pb=_:=m4.head.trans fv
 rw [Int.toNat_natCast] at m3
 refine gh mz (at0 (uP (m4.head.trans (q4.head.trans p4.head)))) ?_
 have hr3:=m3.r
 have hw3:=m3.w
 refine Ok.step (Xz m2 ⟨by omega,by omega⟩ (m3.words (q3.words (p3.words h.now))) (at_:=((P+1:Nat):Int)) (n:=(S.words:Int)) (by omega) (by omega) (by rw [List.length_set];omega)) fun q ⟨n1,M4,n2,n3,n4⟩=>?_
 obtain ⟨q,J4⟩:=q
 simp only at n1 n2 n4
 subst n1
 have Et:J4.aa pb=_:=n4.head.trans mz
 have Si:=n2.lt pb List.mem_cons_self
 rw [Int.toNat_natCast,Int.toNat_natCast] at n3
 have ary:=n3.r
 have hw4:=n3.w
 refine cw Et ?_
 rw [IE] at n3
 have lG:=kO (p:=fun x:PE=>x.tk) (x:=⟨true,e.gen,List.replicate S.words 0⟩) he
 simp only [gj] at lG
 refine U.2 ⟨rfl,M4,_,⟨n2.put List.mem_cons_self _,aH.trans ?_,h.nx,n3.words (m3.words (q3.words (p3.words h.now))),?_⟩,(((p3.trans q3).trans m3).trans n3).as rfl (by omega) (by omega),(((p4.tail.trans q4.tail).trans m4.tail).trans n4.tail).trans (aw.put h.nx _)⟩
 ·simp [ao.cells]
 ·exact h.p.set he rfl (by simp) (h.p.gen e (List.mem_of_getElem? he)) (kM Xy F8) (List.nodup_cons.1 hnd).2 (by rw [h.p.D1];simp at lG;omega)
end
end Go.Abs.Tryz
namespace Go.Abs.Tryz
open Go Go.Abs
variable {O:Type}
theorem vT (J:AH O) (k:Nat):Ext J (J.az k):=(Ext.refl J).az k
theorem eB (J:AH O) (x:eY O):Ext J ((J.az 1).put J.next x):=(vT J 1).put (Nat.le_refl _) x
def gw (S:ao) (e:PE) (k:Int):Int:=if e.tk=true then (if k<0 ∨ k>=S.words then 32 else 0) else 4
section
variable {J:AH O} {pb mb:Nat} {M:ah} {S:ao} {w:List Int} {X:List Nat} (h:aN J pb mb M S w X) (hc:M.calm)
include h hc
theorem xj {i:Nat} {e:PE} {k:Int} (he:S.E[i]? = some e):
  Ok (XA [.p (some (.n pb,0)),.i .i64 ((i:Int)+1),.i .i64 k] J) fun q=>q.1=.i .i64 (gw S e k)/\∃ M',aN q.2 pb mb M' S w X/\fE M M' S.id w 1 0/\aw X J q.2:=by
 (unfold XA qg7;refine bZ ?_)
 refine Ok.step (xg h hc he) fun q ⟨p1,M1,p2,p3⟩=>?_
 obtain ⟨q,J1⟩:=q
 simp only at p1 p2 p3
 subst p1
 have cK:=p2.b
 simp only [ao.cells] at cK
 cases ht:e.tk with
 |false=>
  have:gw S e k=4:=by simp [gw,ht]
  rw [this]
  refine bZ ?_
  exact U.2 ⟨rfl,M1,p2,p3⟩
 |true=>
  by_cases c1:k<0
  ·have:gw S e k=32:=by simp [gw,ht,c1]
   rw [this]
   refine bZ ?_
   exact U.2 ⟨rfl,M1,p2,p3⟩
  ·by_cases c2:k>=S.words
   ·have:gw S e k=32:=by simp [gw,ht,c2]
    rw [this]
    refine cw cK ?_
    exact U.2 ⟨rfl,M1,p2,p3⟩
   ·have:gw S e k=0:=by simp [gw,ht];omega
    rw [this]
    refine cw cK ?_
    exact U.2 ⟨rfl,M1,p2,p3⟩
theorem yI {i:Nat} {e:PE} {k:Nat} (he:S.E[i]? = some e) (gj:e.tk=true) (hk:k<S.words) (hm:M.met.r+100<85070591730234615865843651857942052864):
  Ok (BF [.p (some (.n pb,0)),.i .i64 ((i:Int)+1),.i .i64 (k:Int)] J) fun q=>q.1=.aB [.i .u64 (e.ws.getD k 0),.i .i64 0]/\∃ M',aN q.2 pb mb M' S w X/\fE M M' S.id w 2 0/\aw X J q.2:=by
 have z:gw S e k=0:=by simp [gw,gj];omega
 have e0:((0:Int) != 0)=false:=rfl
 have JD:=h.p.pos he
 have BD:=h.L9
 have hw:=h.p.words
 have hlen:=h.p.len
 have Gc:=h.p.made
 have JG:=(List.getElem?_eq_some_iff.1 he).1
 have h3:S.room*1<=S.room*(S.words+1):=Nat.mul_le_mul_left _ (by omega)
 have hl:=h.p.at he hk
 have XB:=h.p.wl e (List.mem_of_getElem? he)
 have hx:=List.getElem?_eq_getElem (show k<e.ws.length by omega)
 rw [hx] at hl
 (unfold BF qi0;refine bZ ?_)
 refine Ok.step (xj h hc (k:=(k:Int)) he) fun q ⟨p1,M1,p2,p3,p4⟩=>?_
 obtain ⟨q,J1⟩:=q
 simp only at p1 p2 p4
 rw [z] at p1
 subst p1
 have cK:=p2.b
 simp only [ao.cells] at cK
 have pa:=CV p2 (i:=i) (k:=(k:Int)) (by omega) (by omega) ⟨by omega,by omega⟩
 have t0:((i*(S.words+1):Nat):Int)+1+(k:Int)=((i*(S.words+1)+1+k:Nat):Int):=by omega
 rw [t0] at pa
 generalize i*(S.words+1)=P at*
 have hr1:=p3.r
 have yk:=p3.w
 refine jE e0 cK pa ?_
 refine Ok.step (AJ p2.mi ⟨by omega,by have:=hc.w;omega⟩ p2.now (at_:=((P+1+k:Nat):Int)) (by omega) (by omega)) fun q ⟨q1,M2,q2,q3,q4⟩=>?_
 obtain ⟨q,J2⟩:=q
 simp only at q1 q2 q4
 rw [Int.toNat_natCast,List.getD_eq_getElem?_getD,hl] at q1
 simp only [Option.getD_some] at q1
 subst q1
 refine bZ ?_
 refine U.2 ⟨?_,M2,{p2 with mi:=q2,b:=q4.head.trans p2.b,now:=q3.words p2.now},(p3.trans q3).as rfl (by omega) (by omega),p4.trans q4.tail⟩
 rw [List.getD_eq_getElem?_getD,hx];rfl
theorem m9 {i:Nat} {e:PE} {k:Nat} {x:Int} (he:S.E[i]? = some e) (gj:e.tk=true) (hk:k<S.words) (hm:M.met.r+100<85070591730234615865843651857942052864):
  Ok (Gd [.p (some (.n pb,0)),.i .i64 ((i:Int)+1),.i .i64 (k:Int),.i .u64 x] J) fun q=>q.1=.i .i64 0/\∃ M' w',aN q.2 pb mb M' {S with E:=S.E.set i {e with ws:=e.ws.set k x}} w' X/\fE M M' S.id w' 1 1/\aw X J q.2:=by
 have z:gw S e k=0:=by simp [gw,gj];omega
 have e0:((0:Int) != 0)=false:=rfl
 have JD:=h.p.pos he
 have BD:=h.L9
 have hw:=h.p.words
 have hlen:=h.p.len
 have Gc:=h.p.made
 have JG:=(List.getElem?_eq_some_iff.1 he).1
 have h3:S.room*1<=S.room*(S.words+1):=Nat.mul_le_mul_left _ (by omega)
 have XB:=h.p.wl e (List.mem_of_getElem? he)
 have Sh:=h.p.lay
 have F8:∀ j∈S.free,j≠i+1:=fun j hj e1=>by
  obtain ⟨e2,h1,h2,h3⟩:=rq h.p.ch _ hj
  rw [e1,Nat.add_sub_cancel,he] at h2
  cases h2;rw [gj] at h3;cases h3
 have lG:=kO (p:=fun x:PE=>x.tk) (x:={e with ws:=e.ws.set k x}) he
 simp only [gj] at lG
 have IE:w.set (i*(S.words+1)+1+k) x=(S.E.set i {e with ws:=e.ws.set k x}).flatMap PE.enc++List.replicate ((S.room - S.E.length)*(S.words+1)) 0:=by
  have s1:=CU h.p.el he (j:=k+1) (by omega) (List.replicate ((S.room - S.E.length)*(S.words+1)) 0) (x:=x) (y:={e with ws:=e.ws.set k x}) (by simp [PE.enc,PE.st])
  rw [<-Sh] at s1
  rw [show i*(S.words+1)+1+k=i*(S.words+1)+(k+1) by omega];exact s1
 (unfold Gd qhc;refine bZ ?_)
 refine Ok.step (xj h hc (k:=(k:Int)) he) fun q ⟨p1,M1,p2,p3,p4⟩=>?_
 obtain ⟨q,J1⟩:=q
 simp only at p1 p2 p4
 rw [z] at p1
 subst p1
 have cK:=p2.b
 simp only [ao.cells] at cK
 have pa:=CV p2 (i:=i) (k:=(k:Int)) (by omega) (by omega) ⟨by omega,by omega⟩
 have t0:((i*(S.words+1):Nat):Int)+1+(k:Int)=((i*(S.words+1)+1+k:Nat):Int):=by omega
 rw [t0] at pa
 generalize i*(S.words+1)=P at*
 have hr1:=p3.r
 have yk:=p3.w
 refine jE e0 cK pa ?_
 refine Ok.step (yH p2.mi ⟨by omega,by have:=hc.w;omega⟩ p2.now (at_:=((P+1+k:Nat):Int)) (x:=x) (by omega) (by omega)) fun q ⟨q1,M2,q2,q3,q4⟩=>?_
 obtain ⟨q,J2⟩:=q
 simp only at q1 q2 q4
 subst q1
 rw [Int.toNat_natCast,IE] at q3
 simp (maxSteps:=2000000) -implicitDefEqProofs (disch:=(first |omega |rfl |assumption |(simp only [aO];first |omega |assumption))) only [Nat.reduceAdd,Nat.reduceMul,Nat.reduceLT,Int.reduceToNat,Int.reduceAdd,Int.reduceSub,Int.reduceMul,eA,gM]
 refine U.2 ⟨rfl,M2,_,⟨q2,(q4.head.trans p2.b).trans ?_,h.nx,q3.words p2.now,?_⟩,(p3.trans q3).as rfl (by omega) (by omega),p4.trans q4.tail⟩
 ·simp [ao.cells]
 ·exact h.p.set (free':=S.free) (taken':=S.taken) he rfl (by simp [XB]) (h.p.gen e (List.mem_of_getElem? he)) (kM h.p.ch F8) h.p.nd (by rw [h.p.D1];simp [gj] at lG ⊢;omega)
end
theorem Eu {J:AH O} {mb:Nat} {M:ah} {X:List Nat} {n:Nat} (h:bu J mb M X) (hc:M.calm) (je:M.count<262144) (hn:1<=n/\n<=60):
  Ok (XC [.p (some (.n mb,0)),.i .i64 (n:Int)] J) fun r=>∃ pb,r.1=.aB [.p (some (.n pb,0)),.i .i64 0]/\aN r.2 pb mb (M.iv (ff M.sp) 0) ⟨ff M.sp,n,0,[],[],0⟩ [] X/\J.next<=pb/\aw X J r.2:=by
 simp (maxSteps:=2000000) -implicitDefEqProofs (disch:=(first |omega |rfl |assumption |(simp only [aO];first |omega |assumption))) only [XC,qbu,Option.isNone_some,Nat.reduceAdd,Nat.reduceMul,Nat.reduceLT,Int.reduceToNat,Int.reduceAdd,Int.reduceSub,Int.reduceMul,eA,gM]
 refine Ok.step (Ev h hc (n:=0) (by decide) (by decide) je) fun r ⟨p1,p2,p3⟩=>?_
 obtain ⟨q,J1⟩:=r
 simp only at p1 p2 p3
 subst p1
 have e0:((0:Int) != 0)=false:=rfl
 simp (maxSteps:=2000000) -implicitDefEqProofs (disch:=(first |omega |rfl |assumption |(simp only [aO];first |omega |assumption))) only [e0,Nat.reduceAdd,Nat.reduceMul,Nat.reduceLT,Int.reduceToNat,Int.reduceAdd,Int.reduceSub,Int.reduceMul,eA,gM]
 refine U.2 ⟨J1.next,rfl,⟨p2.new (eB _ _) (Nat.le_refl _) (by simp),aH,fun hm=>by have:=p2.lt _ hm;omega,ry,hn,by simp,Nat.le_refl _,.inl rfl,by simp,trivial,by simp,rfl,by simp⟩,p3.next,p3.trans (p2.dD (eB _ _))⟩
end Go.Abs.Tryz
namespace Go.Abs.Tryz
open Go Go.Abs
variable {O:Type}
structure XD (S S':ao) (i g:Nat):Prop where
 id:S'.id=S.id
 words:S'.words=S.words
 now:S'.E[i]? = some ⟨true,g,List.replicate S.words 0⟩
 other:∀ j,j≠i->S'.E[j]? = S.E[j]?
 was:∀ e,S.E[i]? = some e->e.tk=false/\e.gen=g
 new:S.E[i]? = none->g=0
 len:S.E.length<=S'.E.length/\S'.E.length<=S.E.length+1
 taken:S'.taken=S.taken+1
 room:S'.room=S.room ∨ S'.room=S.more
 head:∀ j r,S.free=(j+1)::r->i=j
 fr:S.free=[]/\i=S.E.length/\S'.free=[]/\S'.room=S.more/\S'.E.length=S.E.length+1 ∨ S.free=(i+1)::S'.free/\S'.room=S.room/\S'.E.length=S.E.length
theorem aN.bF {J J':AH O} {pb mb:Nat} {M:ah} {S:ao} {w:List Int} {X Y L:List Nat} (h:aN J pb mb M S w X) (hc:ei L J J') (hl:∀ b∈L,b∈X ∨ J.next<=b) (hY:∀ b∈Y,b∈X ∨ (J.next<=b/\b<J'.next)):aN J' pb mb M S w Y:=by
 have bp:=h.lt
 refine {h with mi:=h.mi.bF hc (fun b hb=>(hl b hb).imp (List.mem_cons_of_mem _) fun g=>g) fun b hb=>?_,b:=(hc.aa pb h.lt fun hm=>?_).trans h.b,nx:=fun hm=>?_}
 ·rcases List.mem_cons.1 hb with rfl |hb
  ·exact .inl List.mem_cons_self
  ·exact (hY b hb).imp (List.mem_cons_of_mem _) fun g=>g
 ·rcases hl pb hm with g |g
  ·exact h.nx g
  ·omega
 ·rcases hY pb hm with g |g
  ·exact h.nx g
  ·omega
theorem Ge {J:AH O} {pb mb:Nat} {M:ah} {S:ao} {w:List Int} {X:List Nat} (h:aN J pb mb M S w X) (hc:M.calm) (hE:S.E.length<1048576) (hR:S.more*(S.words+1)<=4194304) (hm:M.met.r+100<85070591730234615865843651857942052864/\M.met.w+100<85070591730234615865843651857942052864):
  Ok (Nu [.p (some (.n pb,0))] J) fun q=>∃ i g S',q.1=.aB [.i .i64 (((i:Nat):Int)+1),.i .i64 0]/\XD S S' i g/\∃ M' w' dr dw,aN q.2 pb mb M' S' w' X/\fE M M' S.id w' dr dw/\0<=dr/\dr<=2/\1<=dw/\dr+dw<=3+S.words/\aw X J q.2:=by
 cases hf:S.free with
 |nil=>
  refine (xh h hc hf hE hR hm.2).mono fun q ⟨g1,M',w',g2,g3,g4⟩=>⟨S.E.length,0,{S with room:=S.more,E:=S.E++[PE.fresh S.words],taken:=S.taken+1},g1,⟨rfl,rfl,?_,fun j hj=>?_,fun e he=>?_,fun _=>rfl,?_,rfl,.inr rfl,fun j r e=>(by rw [hf] at e;cases e),.inl ⟨hf,rfl,hf,rfl,by simp⟩⟩,M',w',0,1,g2,g3,by omega,by omega,by omega,by omega,g4⟩
  ·show (S.E++[PE.fresh S.words])[S.E.length]? = _
   simp [PE.fresh]
  ·show (S.E++[PE.fresh S.words])[j]? = _
   rcases Nat.lt_or_ge j S.E.length with g |g
   ·rw [List.getElem?_append_left g]
   ·rw [List.getElem?_eq_none (by simp;omega),List.getElem?_eq_none (by omega)]
  ·have:=(List.getElem?_eq_some_iff.1 he).1;omega
  ·simp
 |cons j r=>
  have Hx:=h.p.ch
  rw [hf] at Hx
  obtain ⟨⟨e,h1,_⟩,_⟩:=Hx
  obtain ⟨i,rfl⟩:∃ i,j=i+1:=⟨j - 1,by omega⟩
  obtain ⟨e,he,gj,g⟩:=xi h hc hf hm
  have hi:=(List.getElem?_eq_some_iff.1 he).1
  refine g.mono fun q ⟨g1,M',w',g2,g3,g4⟩=>⟨i,e.gen,{S with E:=S.E.set i ⟨true,e.gen,List.replicate S.words 0⟩,free:=r,taken:=S.taken+1},g1,⟨rfl,rfl,?_,fun j hj=>?_,fun e' lU=>?_,fun hn=>?_,?_,rfl,.inl rfl,fun j' r' e=>(by rw [hf] at e;cases e;rfl),.inr ⟨hf,rfl,by simp⟩⟩,M',w',2,1+S.words,g2,g3,by omega,by omega,by omega,by omega,g4⟩
  ·show (S.E.set i _)[i]? = _
   rw [List.getElem?_set];simp [hi]
  ·show (S.E.set i _)[j]? = _
   rw [List.getElem?_set,if_neg (fun e=>hj e.symm)]
  ·rw [he] at lU;cases lU;exact ⟨gj,rfl⟩
  ·rw [he] at hn;cases hn
  ·simp
end Go.Abs.Tryz
namespace Go.Abs.Tryz
open Go Go.Abs
variable {O:Type}
def nid (C:List Nat) (j:Nat):Nat:=match C[j+1]? with |some i=>i+1 |none=>0
def pid (C:List Nat) (j:Nat):Nat:=match j with |0=>0 |j+1=>(match C[j]? with |some i=>i+1 |none=>0)
def rz (C:List Nat):Nat:=match C with | []=>0 |i::_=>i+1
def kB (C:List Nat):Nat:=match C.getLast? with |none=>0 |some i=>i+1
structure JH (e:PE) (nx pv:Nat) (n p:Nat):Prop where
 tk:e.tk=true
 n:e.ws[nx]? = some (n:Int)
 p:e.ws[pv]? = some (p:Int)
structure bz (E:List PE) (nx pv:Nat) (C:List Nat):Prop where
 nd:C.Nodup
 at_:∀ j i,C[j]? = some i->∃ e,E[i]? = some e/\JH e nx pv (nid C j) (pid C j)
theorem bz.nil (E:List PE) (nx pv:Nat):bz E nx pv []:=⟨by simp,fun j i h=>by simp at h⟩
theorem fS {C:List Nat} {j:Nat} (h:nid C j≠0):j+1<C.length:=by
 unfold nid at h
 split at h
 ·rename_i i hi;exact (List.getElem?_eq_some_iff.1 hi).1
 ·exact absurd rfl h
theorem pZ {C:List Nat} {j i:Nat} (h:C[j+1]? = some i):nid C j=i+1:=by unfold nid;rw [h]
theorem uQ {C:List Nat} {j:Nat} (h:C.length<=j+1):nid C j=0:=by unfold nid;rw [List.getElem?_eq_none h]
theorem ji {C:List Nat} {j i:Nat} (h:C[j]? = some i):pid C (j+1)=i+1:=by unfold pid;simp only [h]
theorem Nx (C:List Nat) (i:Nat):kB (C++[i])=i+1:=by simp [kB]
theorem yJ {C:List Nat}:kB C=pid C C.length:=by
 cases h:C.length with
 |zero=>have:C=[]:=List.eq_nil_of_length_eq_zero h;subst this;rfl
 |succ n=>
  unfold kB pid
  rw [List.getLast?_eq_getElem?,h,Nat.add_sub_cancel]
  have:n<C.length:=by omega
  simp only [List.getElem?_eq_getElem this]
theorem fW {C:List Nat} (h:C.Nodup) {j k i:Nat} (hj:C[j]? = some i) (hk:C[k]? = some i):j=k:=by
 exact (List.getElem?_inj (List.getElem?_eq_some_iff.1 hj).1 h).1 (hj.trans hk.symm)
theorem bz.other {E E':List PE} {nx pv:Nat} {C:List Nat} (h:bz E nx pv C) (he:∀ i∈C,E'[i]? = E[i]?):bz E' nx pv C:=
 ⟨h.nd,fun j i hj=>by rw [he i (List.mem_of_getElem? hj)];exact h.at_ j i hj⟩
theorem bz.words {E:List PE} {nx pv:Nat} {C:List Nat} (h:bz E nx pv C) {i k:Nat} {e:PE} {x:Int} (he:E[i]? = some e) (h1:k≠nx) (h2:k≠pv):bz (E.set i {e with ws:=e.ws.set k x}) nx pv C:=by
 have hi:=(List.getElem?_eq_some_iff.1 he).1
 refine ⟨h.nd,fun j i' hj=>?_⟩
 obtain ⟨y,g1,g2⟩:=h.at_ j i' hj
 rw [List.getElem?_set]
 by_cases c:i=i'
 ·subst c
  rw [he] at g1;cases g1
  exact ⟨{e with ws:=e.ws.set k x},by rw [if_pos rfl,if_pos hi],⟨g2.tk,by rw [List.getElem?_set,if_neg h1];exact g2.n,by rw [List.getElem?_set,if_neg h2];exact g2.p⟩⟩
 ·rw [if_neg c];exact ⟨y,g1,g2⟩
theorem bz.push {E E1 E2:List PE} {nx pv:Nat} {C:List Nat} (h:bz E nx pv C) {i:Nat} (hi:i∉C) {e:PE} (db:nx≠pv) (he:E1[i]? = some e) (hl:JH e nx pv 0 (kB C)) (h1:∀ j,j≠i->E1[j]? = E[j]?)
  (h2:∀ j,C.getLast? ≠ some j->E2[j]? = E1[j]?) (h3:∀ t x,C.getLast? = some t->E1[t]? = some x->E2[t]? = some {x with ws:=x.ws.set nx ((i:Int)+1)}):bz E2 nx pv (C++[i]):=by
 have hnd:(C++[i]).Nodup:=by
  rw [List.nodup_append]
  exact ⟨h.nd,by simp,fun a ha b hb e=>by simp at hb;subst hb;subst e;exact hi ha⟩
 refine ⟨hnd,fun j k hj=>?_⟩
 rcases Nat.lt_or_ge j C.length with g |g
 ·rw [List.getElem?_append_left g] at hj
  obtain ⟨y,k1,k2⟩:=h.at_ j k hj
  have th:k≠i:=fun e=>hi (e▸List.mem_of_getElem? hj)
  rw [<-h1 k th] at k1
  have hp:pid (C++[i]) j=pid C j:=by
   unfold pid
   cases j with
   |zero=>rfl
   |succ j=>simp only;rw [List.getElem?_append_left (by omega)]
  by_cases c:j+1=C.length
  ·have iw:C.getLast? = some k:=by
    rw [List.getLast?_eq_getElem?,show C.length - 1=j by omega];exact hj
   have hn:nid (C++[i]) j=i+1:=pZ (by rw [List.getElem?_append_right (by omega),c,Nat.sub_self];rfl)
   have hw:nx<y.ws.length:=(List.getElem?_eq_some_iff.1 k2.n).1
   refine ⟨_,h3 k y iw k1,k2.tk,?_,?_⟩
   ·rw [hn,List.getElem?_set];simp [hw]
   ·rw [hp,List.getElem?_set,if_neg db];exact k2.p
  ·have hn:nid (C++[i]) j=nid C j:=by
    unfold nid;rw [List.getElem?_append_left (by omega)]
   have iw:C.getLast? ≠ some k:=fun e=>by
    rw [List.getLast?_eq_getElem?] at e
    have:=fW h.nd hj e
    omega
   rw [h2 k iw]
   exact ⟨y,k1,by rw [hn,hp];exact k2⟩
 ·have I9:j=C.length:=by
   have:=(List.getElem?_eq_some_iff.1 hj).1
   simp at this;omega
  subst I9
  rw [List.getElem?_append_right (Nat.le_refl _),Nat.sub_self] at hj
  simp at hj
  subst hj
  have iw:C.getLast? ≠ some i:=fun e=>hi (List.mem_of_getLast? e)
  rw [h2 i iw]
  have hn:nid (C++[i]) C.length=0:=uQ (by simp)
  have hp:pid (C++[i]) C.length=kB C:=by
   rw [yJ]
   unfold pid
   split
   ·rfl
   ·rename_i n h0
    rw [List.getElem?_append_left (by omega)]
  exact ⟨e,he,by rw [hn,hp];exact hl⟩
theorem bz.drop {E E2:List PE} {nx pv:Nat} {C:List Nat} (h:bz E nx pv C) {d i:Nat} (hd:C[d]? = some i) (db:nx≠pv)
  (h1:∀ j,(∀ d',d=d'+1->C[d']? ≠ some j)->C[d+1]? ≠ some j->E2[j]? = E[j]?)
  (h2:∀ d' j x,d=d'+1->C[d']? = some j->E[j]? = some x->E2[j]? = some {x with ws:=x.ws.set nx (nid C d:Int)})
  (h3:∀ j x,C[d+1]? = some j->E[j]? = some x->E2[j]? = some {x with ws:=x.ws.set pv (pid C d:Int)}):bz E2 nx pv (C.eraseIdx d):=by
 have pl:=(List.getElem?_eq_some_iff.1 hd).1
 have get:∀ j,(C.eraseIdx d)[j]? = if j<d then C[j]? else C[j+1]? := fun j=>List.getElem?_eraseIdx
 refine ⟨h.nd.sublist (List.eraseIdx_sublist _ _),fun j k hj=>?_⟩
 rw [get] at hj
 split at hj
 ·rename_i hjd
  obtain ⟨y,k1,k2⟩:=h.at_ j k hj
  have hp:pid (C.eraseIdx d) j=pid C j:=by
   unfold pid
   cases j with
   |zero=>rfl
   |succ j=>simp only [get];rw [if_pos (by omega)]
  have tf:C[d+1]? ≠ some k:=fun e=>by have:=fW h.nd hj e;omega
  by_cases c:d=j+1
  ·have hn:nid (C.eraseIdx d) j=nid C d:=by
    unfold nid;rw [get,if_neg (by omega),c]
   have hw:nx<y.ws.length:=(List.getElem?_eq_some_iff.1 k2.n).1
   refine ⟨_,h2 j k y c hj k1,k2.tk,?_,?_⟩
   ·rw [hn,List.getElem?_set];simp [hw]
   ·rw [hp,List.getElem?_set,if_neg db];exact k2.p
  ·have hn:nid (C.eraseIdx d) j=nid C j:=by
    unfold nid;rw [get,if_pos (by omega)]
   have hpv:∀ d',d=d'+1->C[d']? ≠ some k:=fun d' e1 e2=>by have:=fW h.nd hj e2;omega
   rw [h1 k hpv tf]
   exact ⟨y,k1,by rw [hn,hp];exact k2⟩
 ·rename_i hjd
  obtain ⟨y,k1,k2⟩:=h.at_ (j+1) k hj
  have hn:nid (C.eraseIdx d) j=nid C (j+1):=by
   unfold nid;rw [get,if_neg (by omega)]
  have hpv:∀ d',d=d'+1->C[d']? ≠ some k:=fun d' e1 e2=>by have:=fW h.nd hj e2;omega
  by_cases c:j=d
  ·subst c
   have hp:pid (C.eraseIdx j) j=pid C j:=by
    unfold pid
    cases j with
    |zero=>rfl
    |succ j=>simp only [get];rw [if_pos (by omega)]
   have hw:pv<y.ws.length:=(List.getElem?_eq_some_iff.1 k2.p).1
   refine ⟨_,h3 k y hj k1,k2.tk,?_,?_⟩
   ·rw [hn,List.getElem?_set,if_neg (fun e=>db e.symm)];exact k2.n
   ·rw [hp,List.getElem?_set];simp [hw]
  ·have hp:pid (C.eraseIdx d) j=pid C (j+1):=by
    unfold pid
    cases j with
    |zero=>omega
    |succ j=>simp only [get];rw [if_neg (by omega)]
   have tf:C[d+1]? ≠ some k:=fun e=>by have:=fW h.nd hj e;omega
   rw [h1 k hpv tf]
   exact ⟨y,k1,by rw [hn,hp];exact k2⟩
theorem Ew {C:List Nat} {d i:Nat} (hd:C[d]? = some i):rz (C.eraseIdx d)=if pid C d=0 then nid C d else rz C:=by
 cases C with
 |nil=>simp at hd
 |cons c C=>
  cases d with
  |zero=>
   show rz C=if (0:Nat)=0 then nid (c::C) 0 else rz (c::C)
   rw [if_pos rfl]
   unfold nid rz
   cases C<;>rfl
  |succ d=>
   have:pid (c::C) (d+1)≠0:=by
    have hl:=(List.getElem?_eq_some_iff.1 hd).1
    unfold pid
    simp only
    rw [List.getElem?_eq_getElem (show d<(c::C).length by omega)];simp
   rw [if_neg this];rfl
theorem Ex {C:List Nat} {d i:Nat} (hd:C[d]? = some i):kB (C.eraseIdx d)=if nid C d=0 then pid C d else kB C:=by
 have hl:=(List.getElem?_eq_some_iff.1 hd).1
 have hlen:(C.eraseIdx d).length=C.length - 1:=by rw [List.length_eraseIdx,if_pos hl]
 rw [yJ,hlen,yJ]
 by_cases c:d+1=C.length
 ·rw [if_pos (uQ (by omega)),show C.length - 1=d by omega]
  unfold pid
  cases d with
  |zero=>rfl
  |succ d=>simp only [List.getElem?_eraseIdx];rw [if_pos (by omega)]
 ·have:nid C d≠0:=by
   unfold nid
   rw [List.getElem?_eq_getElem (show d+1<C.length by omega)];simp
  rw [if_neg this]
  obtain ⟨m,hm⟩:∃ m,C.length=m+2:=⟨C.length - 2,by omega⟩
  rw [hm,show m+2 - 1=m+1 by omega]
  unfold pid
  simp only [List.getElem?_eraseIdx]
  rw [if_neg (by omega)]
end Go.Abs.Tryz
namespace Go.Abs.Tryz
open Go Go.Abs
variable {O:Type}
theorem boxed {J J1:AH O} {el:TypeId} {cs:List AV} (h:(J.az 1).put J.next (.cells true el cs)=J1):Ext J J1/\J1.aa J.next=some (.cells true el cs)/\J1.next=J.next+1:=by
 subst h
 exact ⟨eB _ _,aH,rfl⟩
def fL (S:ao) (mb nx pv:Nat):AV:=.agg [.p (some (.n mb,0)),.i .i64 S.id,.i .i64 ((S.words:Int)+1),.i .i64 ((nx:Int)+1),.i .i64 ((pv:Int)+1)]
theorem rA {J:AH O} {mb:Nat} {id W a b:Int} (hW:2<=W/\W<=64) (ha:0<=a/\a<W) (hb:0<=b/\b<W) (db:a≠b):
  Ok (UU [.agg [.p (some (.n mb,0)),.i .i64 id,.i .i64 W,.i .i64 a,.i .i64 b]] J) fun r=>r.1=.b true/\Ext J r.2:=by
 have e1:(a != b)=true:=by simp [db]
 have e2:(a == b)=false:=by simp [db]
 (unfold UU qhw qhs qhr;refine jE @Option.isNone_some.{0} e1 e2 ?_)
 exact U.2 ⟨rfl,eB _ _⟩
theorem gR.Sj {S:ao} {w:List Int} (h:gR S w) {i k:Nat} {e:PE} {x:Int} (he:S.E[i]? = some e) (gj:e.tk=true) (hk:k<S.words):
  gR {S with E:=S.E.set i {e with ws:=e.ws.set k x}} (w.set (i*(S.words+1)+1+k) x):=by
 have F8:∀ j∈S.free,j≠i+1:=fun j hj e1=>by
  obtain ⟨e2,h1,h2,h3⟩:=rq h.ch _ hj
  rw [e1,Nat.add_sub_cancel,he] at h2
  cases h2;rw [gj] at h3;cases h3
 have lG:=kO (p:=fun x:PE=>x.tk) (x:={e with ws:=e.ws.set k x}) he
 simp only [gj] at lG
 refine h.set (free':=S.free) (taken':=S.taken) he ?_ (by simp [h.wl e (List.mem_of_getElem? he)]) (h.gen e (List.mem_of_getElem? he)) (kM h.ch F8) h.nd (by rw [h.D1];simp [gj] at lG ⊢;omega)
 have s1:=CU h.el he (j:=k+1) (by omega) (List.replicate ((S.room - S.E.length)*(S.words+1)) 0) (x:=x) (y:={e with ws:=e.ws.set k x}) (by simp [PE.enc,PE.st])
 rw [<-h.lay] at s1
 rw [show i*(S.words+1)+1+k=i*(S.words+1)+(k+1) by omega];exact s1
section
variable {J:AH O} {pb mb:Nat} {M:ah} {S:ao} {w:List Int} {X:List Nat} (h:aN J pb mb M S w X) {nx pv:Nat} (h1:nx<S.words) (h2:pv<S.words) (db:nx≠pv)
include h h1 h2
theorem rB:Ok (XE [.p (some (.n pb,0)),.i .i64 (nx:Int),.i .i64 (pv:Int)] J) fun r=>r.1=fL S mb nx pv/\Ext J r.2:=by
 have hb:=h.b
 simp only [ao.cells] at hb
 have hw:=h.p.words
 have bp:=h.lt
 (unfold XE qhh;refine cw hb ?_)
 generalize hJ:(J.az 1).put J.next (.cells true _ _)=J1
 obtain ⟨E1,b1,n1⟩:=boxed hJ
 clear hJ
 have wd:=ru (h.ext E1)
 have cK:=(h.ext E1).b
 simp only [ao.cells] at cK
 refine jE wd cK b1 ?_
 exact U.2 ⟨rfl,E1.put (Nat.le_refl _) _⟩
include db
theorem AK:Ok (qh7 [fL S mb nx pv] J) fun r=>r.1=.i .i64 (S.room:Int)/\Ext J r.2:=by
 have hw:=h.p.words
 have hlen:=h.p.len
 have BD:=h.L9
 unfold fL
 (unfold qh7 qh6;refine bZ ?_)
 generalize hJ:(J.az 1).put J.next (.cells true _ _)=J1
 obtain ⟨E1,b1,n1⟩:=boxed hJ
 clear hJ
 refine Ok.step (rA (by omega) (by omega) (by omega) (by omega)) fun r ⟨g1,g2⟩=>?_
 obtain ⟨q,J2⟩:=r
 simp only at g1 g2
 subst g1
 have b2:J2.aa J.next=_:=(g2.aa _ (by omega)).trans b1
 have E2:=E1.trans g2
 have sz:=Qp (h.ext E2).mi (h.ext E2).now
 have ez:((S.words:Int)+1 == 0)=false:=beq_eq_false_iff_ne.2 (by omega)
 have ed:Int.tdiv (w.length:Int) ((S.words:Int)+1)=S.room:=by
  rw [hlen,show ((S.room*(S.words+1):Nat):Int)=(S.room:Int)*((S.words:Int)+1) by simp]
  exact Int.mul_tdiv_cancel _ (by omega)
 have h3:S.room*1<=S.room*(S.words+1):=Nat.mul_le_mul_left _ (by omega)
 refine BA b2 sz ez ed ?_
 exact U.2 ⟨rfl,E2⟩
theorem rC {i:Nat} (hi:i<S.room):Ok (UW [fL S mb nx pv,.i .i64 ((i:Int)+1)] J) fun r=>r.1=.i .i64 0/\Ext J r.2:=by
 have hw:=h.p.words
 unfold fL
 (unfold UW qib;refine bZ ?_)
 generalize hJ:(J.az 1).put J.next (.cells true _ _)=J1
 obtain ⟨E1,b1,n1⟩:=boxed hJ
 clear hJ
 refine Ok.step (rA (by omega) (by omega) (by omega) (by omega)) fun r ⟨g1,g2⟩=>?_
 obtain ⟨q,J2⟩:=r
 simp only at g1 g2
 subst g1
 have b2:J2.aa J.next=_:=(g2.aa _ (by omega)).trans b1
 have E2:=E1.trans g2
 refine cw b2 ?_
 have te:=AK (h.ext E2) h1 h2 db
 unfold fL at te
 refine Ok.step te fun r ⟨g3,g4⟩=>?_
 obtain ⟨q,J3⟩:=r
 simp only at g3 g4
 subst g3
 refine bZ ?_
 exact U.2 ⟨rfl,E2.trans g4⟩
end
theorem JI {J:AH O} {S:ao} {mb nx pv i k:Nat} (hw:S.words<=60) (hi:i*(S.words+1)<=4194304) (MW:i<=4194304) (hk:k<=100):Ok (XF [fL S mb nx pv,.i .i64 ((i:Int)+1),.i .i64 ((k:Int)+1)] J) fun r=>r.1=.i .i64 ((i*(S.words+1)+1+k:Nat):Int)/\Ext J r.2:=by
 have e1:(i:Int)+1 - 1=i:=by omega
 have e2:(i:Int)*((S.words:Int)+1)=((i*(S.words+1):Nat):Int):=by simp
 have e3:((i*(S.words+1):Nat):Int)+((k:Int)+1)=((i*(S.words+1)+1+k:Nat):Int):=by omega
 unfold fL
 generalize i*(S.words+1)=P at*
 simp (maxSteps:=2000000) -implicitDefEqProofs (disch:=(first |omega |rfl |assumption |(simp only [aO];first |omega |assumption))) only [XF,qig,e1,e2,e3,Nat.reduceAdd,Nat.reduceMul,Nat.reduceLT,Int.reduceToNat,Int.reduceAdd,Int.reduceSub,Int.reduceMul,eA,gM]
 exact U.2 ⟨rfl,eB _ _⟩
section
variable {J:AH O} {pb mb:Nat} {M:ah} {S:ao} {w:List Int} {X:List Nat} (h:aN J pb mb M S w X) (hc:M.calm) {nx pv:Nat}
include h hc
theorem kQ {i k x:Nat} {e:PE} (he:S.E[i]? = some e) (gj:e.tk=true) (hk:k<S.words) (hx:x<=4611686018427387904):
  Ok (UX [fL S mb nx pv,.i .i64 ((i:Int)+1),.i .i64 ((k:Int)+1),.i .i64 (x:Int)] J) fun r=>r.1=.aB []/\∃ M' w',aN r.2 pb mb M' {S with E:=S.E.set i {e with ws:=e.ws.set k (x:Int)}} w' X/\fE M M' S.id w' 0 1/\aw X J r.2:=by
 have hw:=h.p.words
 have JD:=h.p.pos he
 have BD:=h.L9
 have JG:=(List.getElem?_eq_some_iff.1 he).1
 have Gc:=h.p.made
 have hlen:=h.p.len
 have h3:S.room*1<=S.room*(S.words+1):=Nat.mul_le_mul_left _ (by omega)
 have PF:=h.p.Sj (x:=(x:Int)) he gj hk
 (unfold UX qil fL;refine bZ ?_)
 generalize hJ:(J.az 1).put J.next (.cells true _ _)=J1
 obtain ⟨E1,b1,n1⟩:=boxed hJ
 clear hJ
 have ta:=JI (J:=J1) (S:=S) (mb:=mb) (nx:=nx) (pv:=pv) (i:=i) (k:=k) hw.2 (by omega) (by omega) (by omega)
 unfold fL at ta
 refine Ok.step ta fun r ⟨g1,g2⟩=>?_
 obtain ⟨q,J2⟩:=r
 simp only at g1 g2
 subst g1
 have b2:J2.aa J.next=_:=(g2.aa _ (by omega)).trans b1
 have h2:=h.ext (E1.trans g2)
 generalize i*(S.words+1)=P at*
 refine cw b2 ?_
 refine Ok.step (yH h2.mi hc h2.now (at_:=((P+1+k:Nat):Int)) (x:=(x:Int)) (by omega) (by omega)) fun q ⟨q1,M2,q2,q3,q4⟩=>?_
 obtain ⟨q,J3⟩:=q
 simp only at q1 q2 q4
 subst q1
 rw [Int.toNat_natCast] at q3
 refine bZ ?_
 refine U.2 ⟨rfl,M2,_,⟨q2,(q4.head.trans h2.b).trans ?_,h.nx,q3.words h2.now,PF⟩,q3,(h.mi.tail.dD (E1.trans g2)).trans q4.tail⟩
 simp [ao.cells]
theorem yK {i k x:Nat} {e:PE} (he:S.E[i]? = some e) (hk:k<S.words) (hv:e.ws[k]? = some (x:Int)) (hx:x<=4611686018427387904):
  Ok (XG [fL S mb nx pv,.i .i64 ((i:Int)+1),.i .i64 ((k:Int)+1)] J) fun r=>r.1=.i .i64 (x:Int)/\∃ M',aN r.2 pb mb M' S w X/\fE M M' S.id w 1 0/\aw X J r.2:=by
 have hw:=h.p.words
 have JD:=h.p.pos he
 have BD:=h.L9
 have JG:=(List.getElem?_eq_some_iff.1 he).1
 have Gc:=h.p.made
 have hlen:=h.p.len
 have h3:S.room*1<=S.room*(S.words+1):=Nat.mul_le_mul_left _ (by omega)
 have hl:=h.p.at he hk
 rw [hv] at hl
 (unfold XG qpx fL;refine bZ ?_)
 generalize hJ:(J.az 1).put J.next (.cells true _ _)=J1
 obtain ⟨E1,b1,n1⟩:=boxed hJ
 clear hJ
 have ta:=JI (J:=J1) (S:=S) (mb:=mb) (nx:=nx) (pv:=pv) (i:=i) (k:=k) hw.2 (by omega) (by omega) (by omega)
 unfold fL at ta
 refine Ok.step ta fun r ⟨g1,g2⟩=>?_
 obtain ⟨q,J2⟩:=r
 simp only at g1 g2
 subst g1
 have b2:J2.aa J.next=_:=(g2.aa _ (by omega)).trans b1
 have h2:=h.ext (E1.trans g2)
 generalize i*(S.words+1)=P at*
 refine cw b2 ?_
 refine Ok.step (AJ h2.mi hc h2.now (at_:=((P+1+k:Nat):Int)) (by omega) (by omega)) fun q ⟨q1,M2,q2,q3,q4⟩=>?_
 obtain ⟨q,J3⟩:=q
 simp only at q1 q2 q4
 rw [Int.toNat_natCast,List.getD_eq_getElem?_getD,hl] at q1
 simp only [Option.getD_some] at q1
 subst q1
 refine bZ ?_
 exact U.2 ⟨rfl,M2,{h2 with mi:=q2,b:=q4.head.trans h2.b,now:=q3.words h2.now},q3,(h.mi.tail.dD (E1.trans g2)).trans q4.tail⟩
end
end Go.Abs.Tryz
set_option maxHeartbeats 2000000
namespace Go.Abs.Tryz
open Go Go.Abs
variable {O:Type}
theorem JK {J J1:AH O} {t1 t2 t3:TypeId} {c1 c2 c3:List AV} (h:(((J.az 3).put J.next (.cells true t1 c1)).put (J.next+1) (.cells true t2 c2)).put (J.next+1+1) (.cells true t3 c3)=J1):
  Ext J J1/\J1.aa J.next=some (.cells true t1 c1)/\J1.aa (J.next+1)=some (.cells true t2 c2)/\J1.aa (J.next+1+1)=some (.cells true t3 c3)/\J1.next=J.next+3:=by
 subst h
 refine ⟨((((Ext.refl J).az 3).put (Nat.le_refl _) _).put (by omega) _).put (by omega) _,?_,?_,aH,rfl⟩
 ·rw [aA (by omega),aA (by omega),aH]
 ·rw [aA (by omega),aH]
structure cE (nx pv:Nat) (E E':List PE):Prop where
 len:E'.length=E.length
 at_:∀ (j:Nat) (x:PE),E[j]? = some x->∃ y,E'[j]? = some y/\y.tk=x.tk/\y.gen=x.gen/\∀ k,k≠nx->k≠pv->y.ws[k]? = x.ws[k]?
theorem cE.refl (nx pv:Nat) (E:List PE):cE nx pv E E:=⟨rfl,fun j x h=>⟨x,h,rfl,rfl,fun _ _ _=>rfl⟩⟩
theorem cE.set {nx pv:Nat} {E E':List PE} (h:cE nx pv E E') {i k:Nat} {e:PE} {v:Int} (he:E'[i]? = some e) (hk:k=nx ∨ k=pv):cE nx pv E (E'.set i {e with ws:=e.ws.set k v}):=by
 have hi:=(List.getElem?_eq_some_iff.1 he).1
 refine ⟨by rw [List.length_set];exact h.len,fun j x hx=>?_⟩
 obtain ⟨y,g1,g2,g3,g4⟩:=h.at_ j x hx
 rw [List.getElem?_set]
 by_cases c:i=j
 ·subst c
  rw [he] at g1;cases g1
  refine ⟨{e with ws:=e.ws.set k v},by rw [if_pos rfl,if_pos hi],g2,g3,fun q h1 h2=>?_⟩
  rw [List.getElem?_set,if_neg (by rcases hk with rfl |rfl;exact fun e=>h1 e.symm;exact fun e=>h2 e.symm)]
  exact g4 q h1 h2
 ·rw [if_neg c];exact ⟨y,g1,g2,g3,g4⟩
def sw (C:List Nat):AV:=.agg [.i .i64 (rz C:Int),.i .i64 (kB C:Int),.i .i64 (C.length:Int)]
theorem bz.small {E:List PE} {nx pv:Nat} {C:List Nat} (h:bz E nx pv C) {B:Nat} (hB:E.length<=B):rz C<=B/\kB C<=B/\(∀ j,nid C j<=B/\pid C j<=B):=by
 have key:∀ j i,C[j]? = some i->i+1<=B:=fun j i hj=>by
  obtain ⟨e,he,_⟩:=h.at_ j i hj
  have:=(List.getElem?_eq_some_iff.1 he).1
  omega
 have kp:∀ j,pid C j<=B:=fun j=>by
  unfold pid
  cases j with
  |zero=>exact Nat.zero_le _
  |succ j=>
   simp only
   split
   ·rename_i i hi;exact key j i hi
   ·exact Nat.zero_le _
 refine ⟨?_,?_,fun j=>⟨?_,kp j⟩⟩
 ·cases C with
  |nil=>exact Nat.zero_le _
  |cons c C=>exact key 0 c rfl
 ·rw [yJ];exact kp _
 ·unfold nid
  split
  ·rename_i i hi;exact key _ i hi
  ·exact Nat.zero_le _
section
variable {J:AH O} {pb mb:Nat} {M:ah} {S:ao} {w:List Int} {X:List Nat} (h:aN J pb mb M S w X) {nx pv:Nat} (h1:nx<S.words) (h2:pv<S.words) (db:nx≠pv) {C:List Nat} (hL:bz S.E nx pv C) (hm:M.met.r+100<85070591730234615865843651857942052864/\M.met.w+100<85070591730234615865843651857942052864)
include h h1 h2 db hL hm
theorem aN.e4:S.E.length<=4194304:=by
 have Gc:=h.p.made
 have hlen:=h.p.len
 have BD:=h.L9
 have h3:S.room*1<=S.room*(S.words+1):=Nat.mul_le_mul_left _ (by omega)
 omega
theorem rH (hCl:C.length<=4194304) {i:Nat} {e:PE} (hi:i∉C) (he:S.E[i]? = some e) (gj:e.tk=true):
  Ok (Sk [fL S mb nx pv,sw C,.i .i64 ((i:Int)+1)] J) fun r=>r.1=.aB [sw (C++[i]),.i .i64 0]/\∃ M' w' E' dw,aN r.2 pb mb M' {S with E:=E'} w' X/\cE nx pv S.E E'/\bz E' nx pv (C++[i])/\fE M M' S.id w' 0 dw/\2<=dw/\dw<=3/\aw X J r.2/\∀ j,j∉C->j≠i->E'[j]? = S.E[j]? := by
 have JG:=(List.getElem?_eq_some_iff.1 he).1
 have Gc:=h.p.made
 have Nw:=h.e4 h1 h2 db hL hm
 obtain ⟨s1,s2,s3⟩:=hL.small (B:=4194304) Nw
 have bp:=h.lt
 have ahj:kB C=0 ∨ ∃ t,kB C=t+1/\C.getLast? = some t:=by
  unfold kB
  cases C.getLast? with
  |none=>exact .inl rfl
  |some t=>exact .inr ⟨t,rfl,rfl⟩
 have e0:((0:Int) != 0)=false:=rfl
 (unfold Sk qiq fL sw;refine bZ ?_)
 generalize hJ:(((J.az 3).put J.next (.cells true _ _)).put (J.next+1) (.cells true _ _)).put (J.next+1+1) (.cells true _ _)=J1
 obtain ⟨E1,b1,c1,d1,n1⟩:=JK hJ
 clear hJ
 have p1:aN J1 pb mb M S w (J.next::(J.next+1)::(J.next+1+1)::X):=h.bF (L:=[]) E1.yz (by simp) fun b hb=>by
  simp only [List.mem_cons] at hb
  rcases hb with rfl |rfl |rfl |hb
  ·exact .inr (by omega)
  ·exact .inr (by omega)
  ·exact .inr (by omega)
  ·exact .inl hb
 have kx1:aw X J J1:=h.mi.tail.dD E1
 have ck:=rC p1 h1 h2 db (i:=i) (by omega)
 unfold fL at ck
 refine Ok.step ck fun r ⟨g1,g2⟩=>?_
 obtain ⟨q,J2⟩:=r
 simp only at g1 g2
 subst g1
 have p2:=p1.ext g2
 have b2:J2.aa J.next=_:=(g2.aa _ (by omega)).trans b1
 have c2:J2.aa (J.next+1)=_:=(g2.aa _ (by omega)).trans c1
 have d2:J2.aa (J.next+1+1)=_:=(g2.aa _ (by omega)).trans d1
 have Sl:aw X J J2:=h.mi.tail.dD (E1.trans g2)
 have BD:=h.p.wl e (List.mem_of_getElem? he)
 have hcr:M.calm:=⟨by omega,by omega⟩
 refine jE e0 b2 c2 ?_
 have ts:=kQ p2 hcr (nx:=nx) (pv:=pv) (i:=i) (k:=pv) (x:=kB C) he gj h2 (by omega)
 unfold fL at ts
 refine Ok.step ts fun r ⟨k1,M3,w3,p3,q3,mF⟩=>?_
 obtain ⟨q,J3⟩:=r
 simp only at k1 p3 mF
 subst k1
 have b3:J3.aa J.next=_:=(mF.aa _ (by simp)).trans b2
 have c3:J3.aa (J.next+1)=_:=(mF.aa _ (by simp)).trans c2
 have d3:J3.aa (J.next+1+1)=_:=(mF.aa _ (by simp)).trans d2
 have r3:=q3.r
 have v3:=q3.w
 have kx3:=Sl.trans mF.tail.tail.tail
 have Sn:(S.E.set i {e with ws:=e.ws.set pv (kB C:Int)})[i]? = some {e with ws:=e.ws.set pv (kB C:Int)}:=by rw [List.getElem?_set];simp [JG]
 refine gh b3 c3 ?_
 have ts:=kQ p3 ⟨by omega,by omega⟩ (nx:=nx) (pv:=pv) (i:=i) (k:=nx) (x:=0) Sn gj h1 (by omega)
 unfold fL at ts
 rw [show ((0:Nat):Int)=0 from rfl] at ts
 refine Ok.step ts fun r ⟨k1,M4,w4,p4,q4,uR⟩=>?_
 obtain ⟨q,J4⟩:=r
 simp only at k1 p4 uR
 subst k1
 have b4:J4.aa J.next=_:=(uR.aa _ (by simp)).trans b3
 have c4:J4.aa (J.next+1)=_:=(uR.aa _ (by simp)).trans c3
 have d4:J4.aa (J.next+1+1)=_:=(uR.aa _ (by simp)).trans d3
 have r4:=q4.r
 have v4:=q4.w
 have So:=kx3.trans uR.tail.tail.tail
 rw [List.set_set] at p4
 have sb:=((cE.refl nx pv S.E).set (v:=(kB C:Int)) he (.inr rfl)).set (v:=0) Sn (.inl rfl)
 rw [List.set_set] at sb
 generalize hEb:S.E.set i {e with ws:=(e.ws.set pv (kB C:Int)).set nx 0}=Eb at p4 sb
 have heb:Eb[i]? = some {e with ws:=(e.ws.set pv (kB C:Int)).set nx 0}:=by rw [<-hEb,List.getElem?_set];simp [JG]
 have Qq:∀ j,j≠i->Eb[j]? = S.E[j]? := fun j hj=>by rw [<-hEb,List.getElem?_set,if_neg (fun e=>hj e.symm)]
 have JE:JH {e with ws:=(e.ws.set pv (kB C:Int)).set nx 0} nx pv 0 (kB C):=⟨gj,by simp only;rw [List.getElem?_set];simp;omega,by simp only;rw [List.getElem?_set,if_neg db,List.getElem?_set];simp;omega⟩
 have n4:=uR.next
 have n3:=mF.next
 have n2:=g2.next
 have fin:∀ (J':AH O) (M':ah) (w':List Int) (E':List PE) (x:eY O),aN J' pb mb M' {S with E:=E'} w' (J.next::(J.next+1)::(J.next+1+1)::X)->aN (J'.put (J.next+1+1) x) pb mb M' {S with E:=E'} w' X:=fun J' M' w' E' x hp=>
  hp.bF (L:=[J.next+1+1]) ⟨by simp,fun b hb hm=>aA (by simpa using hm)⟩ (fun b hb=>by simp at hb;subst hb;exact .inl (by simp)) fun b hb=>.inl (by simp [hb])
 have Gf:∀ (J':AH O) (x:eY O),aw X J' (J'.put (J.next+1+1) x):=fun J' x=>aw.put (fun hm=>by have:=h.mi.lt _ (List.mem_cons_of_mem _ hm);omega) x
 rcases C with _ |⟨c,C'⟩
 ·have ez:((([]:List Nat).length:Nat):Int)=0:=rfl
  have Hy:((0:Int) == 0)=true:=rfl
  rw [ez] at c4
  refine BA b4 c4 Hy d4 ?_
  exact U.2 ⟨by simp [sw,rz,kB],M4,w4,Eb,2,fin _ _ _ _ _ p4,sb,hL.push hi db heb JE Qq (fun j _=>rfl) (fun t x ht=>by simp at ht),(q3.trans q4).as rfl (by omega) (by omega),by omega,by omega,So.trans (Gf _ _),fun j _ hj=>Qq j hj⟩
 ·rcases ahj with e1 |⟨t,ht,iw⟩
  ·unfold kB at e1;rw [List.getLast?_cons] at e1;simp at e1
  have htC:t∈(c::C'):=List.mem_of_getLast? iw
  have hti:t≠i:=fun e=>hi (e▸htC)
  obtain ⟨jt,hjt⟩:=List.getElem?_of_mem htC
  obtain ⟨y,hy,IF⟩:=hL.at_ jt t hjt
  have hyb:Eb[t]? = some y:=by rw [Qq t hti];exact hy
  have ez:(((c::C').length:Nat):Int)=(C'.length:Int)+1:=by simp
  have Hy:((C'.length:Int)+1 == 0)=false:=beq_eq_false_iff_ne.2 (by omega)
  have et:((kB (c::C'):Nat):Int)=(t:Int)+1:=by rw [ht];simp
  rw [ez,et] at c4
  have arC:C'.length<=4194304:=by simp at hCl;omega
  refine jE b4 c4 Hy ?_
  have ts:=kQ p4 ⟨by omega,by omega⟩ (nx:=nx) (pv:=pv) (i:=t) (k:=nx) (x:=i+1) hyb IF.tk h1 (by omega)
  unfold fL at ts
  rw [show ((i+1:Nat):Int)=(i:Int)+1 by simp] at ts
  refine Ok.step ts fun r ⟨k1,M5,w5,p5,q5,BG⟩=>?_
  obtain ⟨q,J5⟩:=r
  simp only at k1 p5 BG
  subst k1
  have b5:J5.aa J.next=_:=(BG.aa _ (by simp)).trans b4
  have c5:J5.aa (J.next+1)=_:=(BG.aa _ (by simp)).trans c4
  have d5:J5.aa (J.next+1+1)=_:=(BG.aa _ (by simp)).trans d4
  refine jE b5 c5 d5 ?_
  refine U.2 ⟨?_,M5,w5,_,3,fin _ _ _ _ _ p5,sb.set hyb (.inl rfl),hL.push hi db heb JE Qq (fun j hj=>?_) (fun t' x' pd Ey=>?_),((q3.trans q4).trans q5).as rfl (by omega) (by omega),by omega,by omega,(So.trans BG.tail.tail.tail).trans (Gf _ _),fun j hj bV=>by rw [List.getElem?_set,if_neg (fun e:t=j=>hj (by rw [<-e];exact htC))];exact Qq j bV⟩
  ·have e7:kB (c::(C'++[i]))=i+1:=Nx (c::C') i
   simp [sw,e7,rz]
  ·rw [List.getElem?_set,if_neg (fun e=>hj (by rw [<-e];exact iw))]
  ·rw [iw] at pd
   cases pd
   rw [hyb] at Ey;cases Ey
   rw [List.getElem?_set]
   simp [(List.getElem?_eq_some_iff.1 hyb).1]
theorem JL (hCl:C.length<=4194304) {i:Nat} {e:PE} (hi:i∉C) (he:S.E[i]? = some e) (gj:e.tk=true):
  Ok (Sk [fL S mb nx pv,sw C,.i .i64 ((i:Int)+1)] J) fun r=>r.1=.aB [sw (C++[i]),.i .i64 0]/\∃ M' w' E' dw,aN r.2 pb mb M' {S with E:=E'} w' X/\cE nx pv S.E E'/\bz E' nx pv (C++[i])/\fE M M' S.id w' 0 dw/\2<=dw/\dw<=3/\aw X J r.2:=by
 exact (rH h h1 h2 db hL hm hCl hi he gj).mono fun r ⟨a,M',w',E',dw,b⟩=>⟨a,M',w',E',dw,b.1,b.2.1,b.2.2.1,b.2.2.2.1,b.2.2.2.2.1,b.2.2.2.2.2.1,b.2.2.2.2.2.2.1⟩
theorem Gg (hCl:C.length<=4194304) {d i:Nat} (hd:C[d]? = some i):
  Ok (qp3 [fL S mb nx pv,sw C,.i .i64 ((i:Int)+1)] J) fun r=>r.1=.aB [sw (C.eraseIdx d),.i .i64 0]/\∃ M' w' E' dw,aN r.2 pb mb M' {S with E:=E'} w' X/\cE nx pv S.E E'/\bz E' nx pv (C.eraseIdx d)/\fE M M' S.id w' 2 dw/\0<=dw/\dw<=2/\aw X J r.2/\∀ j,j∉C->E'[j]? = S.E[j]? := by
 obtain ⟨e,he,JE⟩:=hL.at_ d i hd
 have pl:=(List.getElem?_eq_some_iff.1 hd).1
 have JG:=(List.getElem?_eq_some_iff.1 he).1
 have Gc:=h.p.made
 have Nw:=h.e4 h1 h2 db hL hm
 obtain ⟨s1,s2,s3⟩:=hL.small (B:=4194304) Nw
 obtain ⟨s4,s5⟩:=s3 d
 have bp:=h.lt
 have e0:((0:Int) != 0)=false:=rfl
 have hcr:M.calm:=⟨by omega,by omega⟩
 (unfold qp3 qp2 fL sw;refine bZ ?_)
 generalize hJ:(((J.az 3).put J.next (.cells true _ _)).put (J.next+1) (.cells true _ _)).put (J.next+1+1) (.cells true _ _)=J1
 obtain ⟨E1,b1,c1,d1,n1⟩:=JK hJ
 clear hJ
 have p1:aN J1 pb mb M S w (J.next::(J.next+1)::(J.next+1+1)::X):=h.bF (L:=[]) E1.yz (by simp) fun b hb=>by
  simp only [List.mem_cons] at hb
  rcases hb with rfl |rfl |rfl |hb
  ·exact .inr (by omega)
  ·exact .inr (by omega)
  ·exact .inr (by omega)
  ·exact .inl hb
 have ck:=rC p1 h1 h2 db (i:=i) (by omega)
 unfold fL at ck
 refine Ok.step ck fun r ⟨g1,g2⟩=>?_
 obtain ⟨q,J2⟩:=r
 simp only at g1 g2
 subst g1
 have p2:=p1.ext g2
 have b2:J2.aa J.next=_:=(g2.aa _ (by omega)).trans b1
 have c2:J2.aa (J.next+1)=_:=(g2.aa _ (by omega)).trans c1
 have d2:J2.aa (J.next+1+1)=_:=(g2.aa _ (by omega)).trans d1
 have Sl:aw X J J2:=h.mi.tail.dD (E1.trans g2)
 refine jE e0 b2 c2 ?_
 have ts:=yK p2 hcr (nx:=nx) (pv:=pv) (i:=i) (k:=nx) (x:=nid C d) he h1 JE.n (by omega)
 unfold fL at ts
 refine Ok.step ts fun r ⟨k1,M3,p3,q3,mF⟩=>?_
 obtain ⟨q,J3⟩:=r
 simp only at k1 p3 mF
 subst k1
 have b3:J3.aa J.next=_:=(mF.aa _ (by simp)).trans b2
 have c3:J3.aa (J.next+1)=_:=(mF.aa _ (by simp)).trans c2
 have d3:J3.aa (J.next+1+1)=_:=(mF.aa _ (by simp)).trans d2
 have r3:=q3.r
 have v3:=q3.w
 refine gh b3 c3 ?_
 have ts:=yK p3 ⟨by omega,by omega⟩ (nx:=nx) (pv:=pv) (i:=i) (k:=pv) (x:=pid C d) he h2 JE.p (by omega)
 unfold fL at ts
 refine Ok.step ts fun r ⟨k1,M4,p4,q4,uR⟩=>?_
 obtain ⟨q,J4⟩:=r
 simp only at k1 p4 uR
 subst k1
 have b4:J4.aa J.next=_:=(uR.aa _ (by simp)).trans b3
 have c4:J4.aa (J.next+1)=_:=(uR.aa _ (by simp)).trans c3
 have d4:J4.aa (J.next+1+1)=_:=(uR.aa _ (by simp)).trans d3
 have r4:=q4.r
 have v4:=q4.w
 have So:=(Sl.trans mF.tail.tail.tail).trans uR.tail.tail.tail
 have XH:J.next∉X/\J.next+1∉X/\J.next+1+1∉X:=⟨fun hm=>by have:=h.mi.lt _ (List.mem_cons_of_mem _ hm);omega,fun hm=>by have:=h.mi.lt _ (List.mem_cons_of_mem _ hm);omega,fun hm=>by have:=h.mi.lt _ (List.mem_cons_of_mem _ hm);omega⟩
 have n4:=uR.next
 have n3:=mF.next
 have n2:=g2.next
 have XI:∀ {J':AH O} {M':ah} {w':List Int} {E':List PE} (b:Nat) (x:eY O),(b=J.next+1 ∨ b=J.next+1+1)->aN J' pb mb M' {S with E:=E'} w' (J.next::(J.next+1)::(J.next+1+1)::X)->aN (J'.put b x) pb mb M' {S with E:=E'} w' (J.next::(J.next+1)::(J.next+1+1)::X):=fun {J' M' w' E'} b x hb hp=>
  hp.bF (L:=[b]) ⟨by simp,fun c hc hm=>aA (by simpa using hm)⟩ (fun c hc=>by simp only [List.mem_singleton] at hc;subst hc;rcases hb with rfl |rfl<;>exact .inl (by simp)) fun c hc=>.inl hc
 have pe0:pid C d≠0->∃ d' p,d=d'+1/\C[d']? = some p/\pid C d=p+1:=fun hp=>by
  cases d with
  |zero=>exact absurd rfl hp
  |succ d'=>
   have hx:=List.getElem?_eq_getElem (show d'<C.length by omega)
   exact ⟨d',_,rfl,hx,ji hx⟩
 have ne0:nid C d≠0->∃ p,C[d+1]? = some p/\nid C d=p+1:=fun hn=>by
  have hx:=List.getElem?_eq_getElem (fS hn)
  exact ⟨_,hx,pZ hx⟩
 refine Ok.step (Q:=fun r=>∃ J' M' w' E' dw,r=([],J')/\aN J' pb mb M' {S with E:=E'} w' (J.next::(J.next+1)::(J.next+1+1)::X)/\cE nx pv S.E E'/\fE M M' S.id w' 2 dw/\0<=dw/\dw<=1/\aw X J J'/\J'.next>=J.next+3/\
   (∃ el,J'.aa J.next=some (.cells true el [.p (some (.n mb,0)),.i .i64 S.id,.i .i64 ((S.words:Int)+1),.i .i64 ((nx:Int)+1),.i .i64 ((pv:Int)+1)]))/\
   (∃ el,J'.aa (J.next+1)=some (.cells true el [.i .i64 (rz (C.eraseIdx d):Int),.i .i64 (kB C:Int),.i .i64 (C.length:Int)]))/\(∃ el,J'.aa (J.next+1+1)=some (.cells true el [.i .i64 0,.i .i64 0,.i .i64 0]))/\
   (∀ j,(∀ d',d=d'+1->C[d']? ≠ some j)->E'[j]? = S.E[j]?)/\∀ d' j x,d=d'+1->C[d']? = some j->S.E[j]? = some x->E'[j]? = some {x with ws:=x.ws.set nx (nid C d:Int)}) ?_ ?_
 ·by_cases hp:pid C d=0
  ·have ez:((pid C d:Nat):Int)=0:=by rw [hp];rfl
   have hd0:∀ d',d=d'+1->False:=fun d' e1=>by
    subst e1
    unfold pid at hp
    simp only at hp
    rw [List.getElem?_eq_getElem (show d'<C.length by omega)] at hp
    simp at hp
   rw [ez]
   refine gh e0 c4 ?_
   have hhd:((rz (C.eraseIdx d):Nat):Int)=(nid C d:Int):=by rw [Ew hd,if_pos hp]
   refine U.2 ⟨_,M4,w,S.E,0,rfl,XI _ _ (.inl rfl) p4,cE.refl _ _ _,(q3.trans q4).as rfl (by omega) (by omega),by omega,by omega,So.trans (aw.put XH.2.1 _),by simp;omega,⟨_,(aA (by omega)).trans b4⟩,⟨_,by rw [hhd];exact aH⟩,⟨_,(aA (by omega)).trans d4⟩,fun j _=>rfl,fun d' j x e1=>(hd0 d' e1).elim⟩
  ·obtain ⟨d',p,e1,qG,Ut⟩:=pe0 hp
   obtain ⟨y,hy,IF⟩:=hL.at_ d' p qG
   have ez:((pid C d:Nat):Int)=(p:Int)+1:=by rw [Ut];simp
   have Hy:((p:Int)+1 != 0)=true:=by simp;omega
   rw [ez]
   refine gh Hy b4 ?_
   have ts:=kQ p4 ⟨by omega,by omega⟩ (nx:=nx) (pv:=pv) (i:=p) (k:=nx) (x:=nid C d) hy IF.tk h1 (by omega)
   unfold fL at ts
   refine Ok.step ts fun r ⟨k1,M5,w5,p5,q5,BG⟩=>?_
   obtain ⟨q,J5⟩:=r
   simp only at k1 p5 BG
   subst k1
   refine bZ ?_
   have hhd:((rz (C.eraseIdx d):Nat):Int)=(rz C:Int):=by rw [Ew hd,if_neg hp]
   refine U.2 ⟨J5,M5,w5,_,1,rfl,p5,(cE.refl _ _ _).set hy (.inl rfl),((q3.trans q4).trans q5).as rfl (by omega) (by omega),by omega,by omega,So.trans BG.tail.tail.tail,by have:=BG.next;omega,⟨_,(BG.aa _ (by simp)).trans b4⟩,⟨_,by rw [hhd];exact (BG.aa _ (by simp)).trans c4⟩,⟨_,(BG.aa _ (by simp)).trans d4⟩,fun j hj=>?_,fun d2 j x e2 hj hx=>?_⟩
   ·rw [List.getElem?_set,if_neg (fun e3=>hj d' e1 (by rw [<-e3];exact qG))]
   ·obtain rfl:d2=d':=by omega
    rw [qG] at hj;cases hj
    rw [hy] at hx;cases hx
    rw [List.getElem?_set]
    simp [(List.getElem?_eq_some_iff.1 hy).1]
 rintro _ ⟨J5,M5,w5,E5,dw5,rfl,p5,sb5,q5,x1,x2,kx5,n5,⟨Cm,b5⟩,⟨vQ,c5⟩,⟨Hz,d5⟩,o5,l5⟩
 have r5:=q5.r
 have v5:=q5.w
 refine Ok.step (Q:=fun r=>∃ J' M' w' E' dw,r=([],J')/\aN J' pb mb M' {S with E:=E'} w' (J.next::(J.next+1)::(J.next+1+1)::X)/\cE nx pv S.E E'/\fE M M' S.id w' 2 dw/\0<=dw/\dw<=2/\aw X J J'/\
   (∃ el,J'.aa (J.next+1)=some (.cells true el [.i .i64 (rz (C.eraseIdx d):Int),.i .i64 (kB (C.eraseIdx d):Int),.i .i64 (C.length:Int)]))/\(∃ el,J'.aa (J.next+1+1)=some (.cells true el [.i .i64 0,.i .i64 0,.i .i64 0]))/\J'.next>=J.next+3/\
   bz E' nx pv (C.eraseIdx d)/\∀ j,j∉C->E'[j]? = S.E[j]?) ?_ ?_
 ·by_cases hn:nid C d=0
  ·have ez:((nid C d:Nat):Int)=0:=by rw [hn];rfl
   have Cd:C[d+1]? = none:=by
    unfold nid at hn
    split at hn
    ·omega
    ·rename_i hh;exact hh
   rw [ez]
   refine gh e0 c5 ?_
   have htd:((kB (C.eraseIdx d):Nat):Int)=(pid C d:Int):=by rw [Ex hd,if_pos hn]
   refine U.2 ⟨_,M5,w5,E5,dw5,rfl,XI _ _ (.inl rfl) p5,sb5,q5,x1,by omega,kx5.trans (aw.put XH.2.1 _),⟨_,by rw [htd];exact aH⟩,⟨_,(aA (by omega)).trans d5⟩,by simp;omega,hL.drop hd db (fun j hj _=>o5 j hj) l5 (fun j x hj=>by rw [Cd] at hj;cases hj),fun j hj=>o5 j fun d' _ e=>hj (List.mem_of_getElem? e)⟩
  ·obtain ⟨p,qG,Ut⟩:=ne0 hn
   obtain ⟨y,hy,IF⟩:=hL.at_ (d+1) p qG
   have Wj:∀ d',d=d'+1->C[d']? ≠ some p:=fun d' e1 e2=>by have:=fW hL.nd qG e2;omega
   have hy5:E5[p]? = some y:=(o5 p Wj).trans hy
   have ez:((nid C d:Nat):Int)=(p:Int)+1:=by rw [Ut];simp
   have Hy:((p:Int)+1 != 0)=true:=by simp;omega
   rw [ez]
   refine gh Hy b5 ?_
   have ts:=kQ p5 ⟨by omega,by omega⟩ (nx:=nx) (pv:=pv) (i:=p) (k:=pv) (x:=pid C d) hy5 IF.tk h2 (by omega)
   unfold fL at ts
   refine Ok.step ts fun r ⟨k1,M6,w6,p6,q6,HA⟩=>?_
   obtain ⟨q,J6⟩:=r
   simp only at k1 p6 HA
   subst k1
   refine bZ ?_
   have htd:((kB (C.eraseIdx d):Nat):Int)=(kB C:Int):=by rw [Ex hd,if_neg hn]
   refine U.2 ⟨J6,M6,w6,_,dw5+1,rfl,p6,sb5.set hy5 (.inr rfl),(q5.trans q6).as rfl (by omega) (by omega),by omega,by omega,kx5.trans HA.tail.tail.tail,⟨_,by rw [htd];exact (HA.aa _ (by simp)).trans c5⟩,⟨_,(HA.aa _ (by simp)).trans d5⟩,by have:=HA.next;omega,hL.drop hd db (fun j hj Ho=>?_) (fun d2 j x e2 hj hx=>?_) (fun j x hj hx=>?_),fun j hj=>by rw [List.getElem?_set,if_neg (fun e:p=j=>hj (by rw [<-e];exact List.mem_of_getElem? qG))];exact o5 j fun d' _ e=>hj (List.mem_of_getElem? e)⟩
   ·rw [List.getElem?_set,if_neg (fun e3=>Ho (by rw [<-e3];exact qG))];exact o5 j hj
   ·rw [List.getElem?_set,if_neg (fun e3=>Wj d2 e2 (by rw [e3];exact hj))];exact l5 d2 j x e2 hj hx
   ·rw [qG] at hj;cases hj
    rw [hy] at hx;cases hx
    rw [List.getElem?_set]
    simp [(List.getElem?_eq_some_iff.1 hy5).1]
 rintro _ ⟨J6,M6,w6,E6,dw6,rfl,p6,XJ,q6,y1,y2,kx6,⟨el4,c6⟩,⟨el5,d6⟩,n6,hL6,hF6⟩
 refine gh c6 d6 ?_
 refine U.2 ⟨?_,M6,w6,E6,dw6,(p6.bF (L:=[J.next+1,J.next+1+1]) ⟨by simp,fun b hb hm=>?_⟩ (fun b hb=>.inl ?_) fun b hb=>.inl (by simp [hb])),XJ,hL6,q6,y1,y2,kx6.trans ((aw.put XH.2.1 _).trans (aw.put XH.2.2 _)),hF6⟩
 ·simp only [sw,List.length_eraseIdx,if_pos pl]
  rw [show ((C.length - 1:Nat):Int)=(C.length:Int) - 1 by omega]
 ·simp only [List.mem_cons,List.not_mem_nil,or_false,not_or] at hm
  rw [aA hm.2,aA hm.1]
 ·simp only [List.mem_cons,List.not_mem_nil,or_false] at hb
  rcases hb with rfl |rfl<;>simp
end
end Go.Abs.Tryz
namespace Go.Abs.Tryz
open Go Go.Abs
variable {O:Type}
def Sq (S:ao) (mb nx pv:Nat):List AV:=[.p (some (.n mb,0)),.i .i64 S.id,.i .i64 ((S.words:Int)+1),.i .i64 ((nx:Int)+1),.i .i64 ((pv:Int)+1)]
def JM (C:List Nat):List AV:=[.i .i64 (rz C:Int),.i .i64 (kB C:Int),.i .i64 (C.length:Int)]
section
variable {J:AH O} {pb mb:Nat} {M:ah} {S:ao} {w:List Int} {X:List Nat} (h:aN J pb mb M S w X) {nx pv:Nat} (h1:nx<S.words) (h2:pv<S.words) (db:nx≠pv)
include h h1 h2 db
theorem rI (hc:M.calm) {i x:Nat} {e:PE} (he:S.E[i]? = some e) (hv:e.ws[nx]? = some (x:Int)) (hx:x<=4611686018427387904):
  Ok (Qr [fL S mb nx pv,.i .i64 ((i:Int)+1)] J) fun r=>r.1=.aB [.i .i64 (x:Int),.i .i64 0]/\∃ M',aN r.2 pb mb M' S w X/\fE M M' S.id w 1 0/\aw X J r.2:=by
 have JG:=(List.getElem?_eq_some_iff.1 he).1
 have Gc:=h.p.made
 have e0:((0:Int) != 0)=false:=rfl
 (unfold Qr qq1 fL;refine bZ ?_)
 generalize hJ:(J.az 1).put J.next (.cells true _ _)=J1
 obtain ⟨E1,b1,n1⟩:=boxed hJ
 clear hJ
 have ck:=rC (h.ext E1) h1 h2 db (i:=i) (by omega)
 unfold fL at ck
 refine Ok.step ck fun r ⟨g1,g2⟩=>?_
 obtain ⟨q,J2⟩:=r
 simp only at g1 g2
 subst g1
 have b2:J2.aa J.next=_:=(g2.aa _ (by omega)).trans b1
 have p2:=h.ext (E1.trans g2)
 refine gh e0 b2 ?_
 have ts:=yK p2 hc (nx:=nx) (pv:=pv) (i:=i) (k:=nx) (x:=x) he h1 hv hx
 unfold fL at ts
 refine Ok.step ts fun r ⟨k1,M3,p3,q3,mF⟩=>?_
 obtain ⟨q,J3⟩:=r
 simp only at k1 p3 mF
 subst k1
 refine bZ ?_
 exact U.2 ⟨rfl,M3,p3,q3,(h.mi.tail.dD (E1.trans g2)).trans mF⟩
end
theorem Ny {J:AH O} {S:ao} {mb nx pv:Nat} {C:List Nat}:UY [fL S mb nx pv,sw C] J=some (.fn (some (.func 184,[],[.p (some (.n (J.next+1),0)),.p (some (.n J.next,0))])),((J.az 2).put J.next (.cells true qav (Sq S mb nx pv))).put (J.next+1) (.cells true qau (JM C))):=by
 (unfold UY qwf fL sw Sq JM;exact zU0)
end Go.Abs.Tryz
namespace Go.Abs.Tryz
open Go Go.Abs
variable {O:Type}
theorem CW {A:List Nat} {t:Nat} (h:A.getLast? = some t):A[A.length - 1]? = some t:=by
 rw [<-h,List.getLast?_eq_getElem?]
theorem bz.join {E E':List PE} {nx pv:Nat} {A B:List Nat} (hA:bz E nx pv A) (hB:bz E nx pv B) (db:nx≠pv) (hd:∀ i∈A,i∉B) {t c:Nat} (ht:A.getLast? = some t) (hc:B[0]? = some c)
  (o:∀ j,j≠t->j≠c->E'[j]? = E[j]?) (l1:∀ x,E[t]? = some x->E'[t]? = some {x with ws:=x.ws.set nx ((c:Int)+1)}) (l2:∀ x,E[c]? = some x->E'[c]? = some {x with ws:=x.ws.set pv ((t:Int)+1)}):bz E' nx pv (A++B):=by
 have XK:=CW ht
 have amK:0<A.length:=by
  have:=(List.getElem?_eq_some_iff.1 XK).1
  omega
 have amL:0<B.length:=(List.getElem?_eq_some_iff.1 hc).1
 have XL:t∈A:=List.mem_of_getElem? XK
 have hcB:c∈B:=List.mem_of_getElem? hc
 refine ⟨List.nodup_append.2 ⟨hA.nd,hB.nd,fun a ha b hb e=>hd a ha (e▸hb)⟩,fun j i hj=>?_⟩
 rcases Nat.lt_or_ge j A.length with hjA |hjA
 ·have qH:A[j]? = some i:=by rw [<-hj,List.getElem?_append_left hjA]
  obtain ⟨e,he,hl⟩:=hA.at_ j i qH
  have XM:pid (A++B) j=pid A j:=by
   unfold pid
   cases j with
   |zero=>rfl
   |succ j=>simp only;rw [List.getElem?_append_left (by omega)]
  have hic:i≠c:=fun e=>hd i (List.mem_of_getElem? qH) (e▸hcB)
  by_cases iw:j+1=A.length
  ·have XN:i=t:=by
    have:j=A.length - 1:=by omega
    rw [this,XK] at qH;cases qH;rfl
   subst XN
   have hn:nid (A++B) j=c+1:=pZ (by rw [List.getElem?_append_right (by omega),iw,Nat.sub_self];exact hc)
   refine ⟨_,l1 e he,⟨hl.tk,?_,?_⟩⟩
   ·show (e.ws.set nx ((c:Int)+1))[nx]? = _
    have:=(List.getElem?_eq_some_iff.1 hl.n).1
    rw [List.getElem?_set,if_pos rfl,if_pos this,hn];simp
   ·show (e.ws.set nx ((c:Int)+1))[pv]? = _
    rw [List.getElem?_set,if_neg db,hl.p,XM]
  ·have XN:i≠t:=fun e=>iw (by
    subst e
    have:=fW hA.nd qH XK
    omega)
   have hn:nid (A++B) j=nid A j:=by unfold nid;rw [List.getElem?_append_left (by omega)]
   exact ⟨e,(o i XN hic).trans he,by rw [hn,XM];exact hl⟩
 ·have qH:B[j - A.length]? = some i:=by rw [<-hj,List.getElem?_append_right hjA]
  obtain ⟨e,he,hl⟩:=hB.at_ _ i qH
  have XN:i≠t:=fun e=>hd t XL (e▸List.mem_of_getElem? qH)
  have hn:nid (A++B) j=nid B (j - A.length):=by
   unfold nid
   rw [List.getElem?_append_right (by omega),show j+1 - A.length=j - A.length+1 by omega]
  by_cases hj0:j=A.length
  ·subst hj0
   rw [Nat.sub_self] at qH hl hn
   rw [hc] at qH;cases qH
   have hp:pid (A++B) A.length=t+1:=by
    obtain ⟨m,hm⟩:∃ m,A.length=m+1:=⟨A.length - 1,by omega⟩
    rw [hm]
    refine ji ?_
    rw [List.getElem?_append_left (by omega),<-XK,hm,Nat.add_sub_cancel]
   refine ⟨_,l2 e he,⟨hl.tk,?_,?_⟩⟩
   ·show (e.ws.set pv ((t:Int)+1))[nx]? = _
    rw [List.getElem?_set,if_neg (Ne.symm db),hl.n,hn]
   ·show (e.ws.set pv ((t:Int)+1))[pv]? = _
    have:=(List.getElem?_eq_some_iff.1 hl.p).1
    rw [List.getElem?_set,if_pos rfl,if_pos this,hp];simp
  ·have hic:i≠c:=fun e=>hj0 (by
    subst e
    have:=fW hB.nd qH hc
    omega)
   have hp:pid (A++B) j=pid B (j - A.length):=by
    obtain ⟨m,hm⟩:∃ m,j=A.length+(m+1):=⟨j - A.length - 1,by omega⟩
    subst hm
    rw [show A.length+(m+1) - A.length=m+1 by omega,show A.length+(m+1)=A.length+m+1 by omega]
    unfold pid
    simp only
    rw [List.getElem?_append_right (by omega),Nat.add_sub_cancel_left]
   exact ⟨e,(o i XN hic).trans he,by rw [hn,hp];exact hl⟩
theorem Sr {J J1:AH O} {t1 t2 t3 t4:TypeId} {c1 c2 c3 c4:List AV} (h:((((J.az 4).put J.next (.cells true t1 c1)).put (J.next+1) (.cells true t2 c2)).put (J.next+1+1) (.cells true t3 c3)).put (J.next+1+1+1) (.cells true t4 c4)=J1):
  Ext J J1/\J1.aa J.next=some (.cells true t1 c1)/\J1.aa (J.next+1)=some (.cells true t2 c2)/\J1.aa (J.next+1+1)=some (.cells true t3 c3)/\J1.aa (J.next+1+1+1)=some (.cells true t4 c4)/\J1.next=J.next+4:=by
 subst h
 refine ⟨(((((Ext.refl J).az 4).put (Nat.le_refl _) _).put (by omega) _).put (by omega) _).put (by omega) _,?_,?_,?_,aH,rfl⟩
 ·rw [aA (by omega),aA (by omega),aA (by omega),aH]
 ·rw [aA (by omega),aA (by omega),aH]
 ·rw [aA (by omega),aH]
theorem JN {J:AH O} {pb mb:Nat} {M:ah} {S:ao} {w:List Int} {X:List Nat} (h:aN J pb mb M S w X) {nx pv:Nat} (h1:nx<S.words) (h2:pv<S.words) (db:nx≠pv) {A B:List Nat} (hA:bz S.E nx pv A) (hB:bz S.E nx pv B) (hd:∀ i∈A,i∉B) (hm:M.met.r+100<85070591730234615865843651857942052864/\M.met.w+100<85070591730234615865843651857942052864)
  (hAl:A.length<=4194304) (hBl:B.length<=4194304):
  Ok (qnp [fL S mb nx pv,sw A,sw B] J) fun r=>r.1=.aB [sw (A++B),.i .i64 0]/\∃ M' w' E' dw,aN r.2 pb mb M' {S with E:=E'} w' X/\cE nx pv S.E E'/\bz E' nx pv (A++B)/\fE M M' S.id w' 0 dw/\0<=dw/\dw<=2/\aw X J r.2/\∀ j,j∉A->j∉B->E'[j]? = S.E[j]? := by
 have hw:=h.p.words
 have Nw:=h.e4 h1 h2 db hA hm
 obtain ⟨s1,s2,s3⟩:=hA.small (B:=4194304) Nw
 obtain ⟨s4,s5,s6⟩:=hB.small (B:=4194304) Nw
 (unfold qnp qno fL sw;refine bZ ?_)
 generalize hJ:((((J.az 4).put J.next (.cells true _ _)).put (J.next+1) (.cells true _ _)).put (J.next+1+1) (.cells true _ _)).put (J.next+1+1+1) (.cells true _ _)=J1
 obtain ⟨E1,b1,c1,d1,f1,n1⟩:=Sr hJ
 clear hJ
 have p1:aN J1 pb mb M S w (J.next::(J.next+1)::(J.next+1+1)::(J.next+1+1+1)::X):=h.bF (L:=[]) E1.yz (by simp) fun b hb=>by
  simp only [List.mem_cons] at hb
  rcases hb with rfl |rfl |rfl |rfl |hb
  ·exact .inr (by omega)
  ·exact .inr (by omega)
  ·exact .inr (by omega)
  ·exact .inr (by omega)
  ·exact .inl hb
 refine Ok.step (rA (by omega) (by omega) (by omega) (by omega)) fun r ⟨g1,g2⟩=>?_
 obtain ⟨q,J2⟩:=r
 simp only at g1 g2
 subst g1
 have p2:=p1.ext g2
 have b2:J2.aa J.next=_:=(g2.aa _ (by omega)).trans b1
 have c2:J2.aa (J.next+1)=_:=(g2.aa _ (by omega)).trans c1
 have d2:J2.aa (J.next+1+1)=_:=(g2.aa _ (by omega)).trans d1
 have f2:J2.aa (J.next+1+1+1)=_:=(g2.aa _ (by omega)).trans f1
 have Sl:aw X J J2:=h.mi.tail.dD (E1.trans g2)
 have hX:∀ b∈X,b<J.next:=fun b hb=>h.mi.lt _ (List.mem_cons_of_mem _ hb)
 have fin:∀ (J':AH O) (M':ah) (w':List Int) (E':List PE) (x:eY O),aN J' pb mb M' {S with E:=E'} w' (J.next::(J.next+1)::(J.next+1+1)::(J.next+1+1+1)::X)->aN (J'.put (J.next+1+1+1) x) pb mb M' {S with E:=E'} w' X:=fun J' M' w' E' x hp=>
  hp.bF (L:=[J.next+1+1+1]) ⟨by simp,fun b hb hm=>aA (by simpa using hm)⟩ (fun b hb=>by simp at hb;subst hb;exact .inl (by simp)) fun b hb=>.inl (by simp [hb])
 have Gf:∀ (J':AH O) (x:eY O),aw X J' (J'.put (J.next+1+1+1) x):=fun J' x=>aw.put (fun hm=>by have:=hX _ hm;omega) x
 rcases A with _ |⟨a,A'⟩
 ·have ez:((([]:List Nat).length:Nat):Int)=0:=rfl
  have Hy:((0:Int) == 0)=true:=rfl
  rw [ez] at c2
  refine BA c2 d2 f2 Hy ?_
  exact U.2 ⟨by simp [sw],M,w,S.E,0,fin _ _ _ _ _ p2,cE.refl _ _ _,by simpa using hB,fE.refl h.now,by omega,by omega,Sl.trans (Gf _ _),fun _ _ _=>rfl⟩
 have ez:(((a::A').length:Nat):Int)=(A'.length:Int)+1:=by simp
 have Hy:((A'.length:Int)+1 == 0)=false:=beq_eq_false_iff_ne.2 (by omega)
 rcases B with _ |⟨c,B'⟩
 ·have ey:((([]:List Nat).length:Nat):Int)=0:=rfl
  have ey2:((0:Int) == 0)=true:=rfl
  rw [ez] at c2
  rw [ey] at d2
  refine rl c2 d2 f2 Hy ey2 ?_
  exact U.2 ⟨by simp [sw],M,w,S.E,0,fin _ _ _ _ _ p2,cE.refl _ _ _,by simpa using hA,fE.refl h.now,by omega,by omega,Sl.trans (Gf _ _),fun _ _ _=>rfl⟩
 have ey:(((c::B').length:Nat):Int)=(B'.length:Int)+1:=by simp
 have ey2:((B'.length:Int)+1 == 0)=false:=beq_eq_false_iff_ne.2 (by omega)
 obtain ⟨t,iw⟩:∃ t,(a::A').getLast? = some t:=⟨_,List.getLast?_cons⟩
 have et:((kB (a::A'):Nat):Int)=(t:Int)+1:=by unfold kB;rw [iw];simp
 have eh:((rz (c::B'):Nat):Int)=(c:Int)+1:=by simp [rz]
 have XL:t∈(a::A'):=List.mem_of_getLast? iw
 have hcB:c∈(c::B'):=List.mem_cons_self
 have htc:t≠c:=fun e=>hd t XL (e▸hcB)
 obtain ⟨jt,hjt⟩:=List.getElem?_of_mem XL
 obtain ⟨y,hy,IF⟩:=hA.at_ jt t hjt
 obtain ⟨z,hz,RL⟩:=hB.at_ 0 c rfl
 have htE:=(List.getElem?_eq_some_iff.1 hy).1
 have hcE:=(List.getElem?_eq_some_iff.1 hz).1
 have hA4:A'.length<=4194304:=by simp at hAl;omega
 have hB4:B'.length<=4194304:=by simp at hBl;omega
 rw [ez,et] at c2
 rw [ey,eh] at d2
 refine rl b2 c2 d2 Hy ey2 ?_
 have ts:=kQ p2 ⟨by omega,by omega⟩ (nx:=nx) (pv:=pv) (i:=t) (k:=nx) (x:=c+1) hy IF.tk h1 (by omega)
 unfold fL at ts
 rw [show ((c+1:Nat):Int)=(c:Int)+1 by simp] at ts
 refine Ok.step ts fun r ⟨k1,M3,w3,p3,q3,mF⟩=>?_
 obtain ⟨q,J3⟩:=r
 simp only at k1 p3 mF
 subst k1
 have r3:=q3.r
 have v3:=q3.w
 have b3:J3.aa J.next=_:=(mF.aa _ (by simp)).trans b2
 have c3:J3.aa (J.next+1)=_:=(mF.aa _ (by simp)).trans c2
 have d3:J3.aa (J.next+1+1)=_:=(mF.aa _ (by simp)).trans d2
 have f3:J3.aa (J.next+1+1+1)=_:=(mF.aa _ (by simp)).trans f2
 have Xd:(S.E.set t {y with ws:=y.ws.set nx ((c:Int)+1)})[c]? = some z:=by rw [List.getElem?_set,if_neg htc];exact hz
 refine jE b3 c3 d3 ?_
 have ts:=kQ p3 ⟨by omega,by omega⟩ (nx:=nx) (pv:=pv) (i:=c) (k:=pv) (x:=t+1) Xd RL.tk h2 (by omega)
 unfold fL at ts
 rw [show ((t+1:Nat):Int)=(t:Int)+1 by simp] at ts
 refine Ok.step ts fun r ⟨k1,M4,w4,p4,q4,uR⟩=>?_
 obtain ⟨q,J4⟩:=r
 simp only at k1 p4 uR
 subst k1
 have c4:J4.aa (J.next+1)=_:=(uR.aa _ (by simp)).trans c3
 have d4:J4.aa (J.next+1+1)=_:=(uR.aa _ (by simp)).trans d3
 have f4:J4.aa (J.next+1+1+1)=_:=(uR.aa _ (by simp)).trans f3
 refine jE c4 d4 f4 ?_
 have So:=(Sl.trans mF.tail.tail.tail.tail).trans uR.tail.tail.tail.tail
 refine U.2 ⟨?_,M4,w4,_,2,fin _ _ _ _ _ p4,((cE.refl nx pv S.E).set hy (.inl rfl)).set Xd (.inr rfl),hA.join hB db hd iw rfl (fun j hj1 Ho=>?_) (fun x hx=>?_) (fun x hx=>?_),(q3.trans q4).as rfl (by omega) (by omega),by omega,by omega,So.trans (Gf _ _),fun j hA hB=>by rw [List.getElem?_set,if_neg (fun e:c=j=>hB (by rw [<-e];exact hcB)),List.getElem?_set,if_neg (fun e:t=j=>hA (by rw [<-e];exact XL))]⟩
 ·have e7:((kB (a::(A'++c::B')):Nat):Int)=(kB (c::B'):Int):=by
   unfold kB
   rw [show a::(A'++c::B')=(a::A')++(c::B') from rfl,List.getLast?_append]
   cases hh:(c::B').getLast? with
   |none=>simp at hh
   |some v=>rfl
  simp [sw,e7,rz]
  omega
 ·rw [List.getElem?_set,if_neg (Ne.symm Ho),List.getElem?_set,if_neg (Ne.symm hj1)]
 ·rw [hy] at hx;cases hx
  rw [List.getElem?_set,if_neg (Ne.symm htc),List.getElem?_set,if_pos rfl,if_pos htE]
 ·rw [hz] at hx;cases hx
  rw [List.getElem?_set,if_pos rfl,if_pos (by rw [List.length_set];exact hcE)]
end Go.Abs.Tryz
