/-
  The document of layer 20 (evac): where each object of a list is. No conditions.
-/
import Derived.Test.YtncohicmiihjiaaGreatL21
set_option linter.unusedVariables false
set_option linter.unusedSimpArgs false
set_option linter.constructorNameAsVariable false
set_option linter.unusedSimpArgs false
set_option linter.unusedVariables false
set_option linter.unusedSectionVars false
set_option maxHeartbeats 4000000
namespace Go.Abs.Tryz
open Go Go.Abs
variable {O:Type}
def nX (l:List Int):TV:=.sl KS 1 l.length (l.flatMap (nI .i64))
theorem vc {l:List Int} {v:AV} (h:Im (nX l) v):∃ a,v=.sl a l.length/\Ints .i64 a l:=Row.of (ku .i64) h rfl
theorem qt {l:List Int} {a:SA} (h:Ints .i64 a l):Im (nX l) (.sl a l.length):=h.im _
structure ft where
 l:List OV
 now:List Int
 top:Int
 mv:List Int
 steps:Int
def ft.ts (s:ft):List TV:=[.sl Dk 8 s.l.length (s.l.flatMap OV.row),gl s.now,.lf (.i .i64 s.top),nX s.mv,.lf (.i .i64 s.steps)]
def ft.cells (s:ft) (a b c:SA):List AV:=[.sl a s.l.length,.sl b s.now.length,.i .i64 s.top,.sl c s.mv.length,.i .i64 s.steps]
structure ft.At (s:ft) (a b c:SA):Prop where
 l:ss a s.l
 now:Ints .u64 b s.now
 mv:Ints .i64 c s.mv
theorem ft.un {s:ft} {us:List AV} (h:fF s.ts us):∃ a b c,us=s.cells a b c/\s.At a b c:=by
 unfold ft.ts at h
 cases h with
 |cons h0 h=>cases h with
 |cons h1 h=>cases h with
 |cons h2 h=>cases h with
 |cons h3 h=>cases h with
 |cons h4 h=>cases h with
 |nil=>
  obtain ⟨a,rfl,ia⟩:=Row.of OV.len h0 rfl
  obtain ⟨b,rfl,ib⟩:=qs h1
  obtain ⟨c,rfl,ic⟩:=vc h3
  rw [h2.leaf,h4.leaf]
  exact ⟨a,b,c,rfl,ia,ib,ic⟩
theorem ft.KO {s:ft} {a b c:SA} (h:s.At a b c):fF s.ts (s.cells a b c):=
 .cons (h.l.im _) (.cons (ju h.now) (.cons (.lf rfl) (.cons (qt h.mv) (.cons (.lf rfl) .nil))))
theorem ft.deep (s:ft):∀ t∈s.ts,t.deep 5:=by
 have hint:∀ (k:IntKind) (l:List Int),∀ t∈l.flatMap (nI k),t.deep 4:=fun k l t ht=>by
  obtain ⟨n,_,hn⟩:=List.mem_flatMap.1 ht
  simp only [nI,List.mem_singleton] at hn
  subst hn;exact trivial
 intro t ht
 simp only [ft.ts,List.mem_cons,List.not_mem_nil,or_false] at ht
 rcases ht with rfl |rfl |rfl |rfl |rfl
 ·intro t ht
  obtain ⟨x,_,hx⟩:=List.mem_flatMap.1 ht
  exact x.deep t hx
 ·exact hint _ _
 ·exact trivial
 ·exact hint _ _
 ·exact trivial
theorem ft.ER (s:ft):∀ t∈s.ts,t.deep 6:=by
 have hint:∀ (k:IntKind) (l:List Int),∀ t∈l.flatMap (nI k),t.deep 5:=fun k l t ht=>by
  obtain ⟨n,_,hn⟩:=List.mem_flatMap.1 ht
  simp only [nI,List.mem_singleton] at hn
  subst hn;exact trivial
 have h4:∀ (x:OV),∀ t∈x.row,t.deep 5:=by
  intro x t ht
  simp only [OV.row,Hd.av,List.map_cons,List.map_nil,List.cons_append,List.nil_append,List.mem_cons,List.not_mem_nil,or_false] at ht
  have hint:∀ (l:List Int),∀ t∈l.flatMap (nI .u64),t.deep 4:=fun l t ht=>by
   obtain ⟨n,_,hn⟩:=List.mem_flatMap.1 ht
   simp only [nI,List.mem_singleton] at hn
   subst hn;exact trivial
  rcases ht with rfl |rfl |rfl |rfl |rfl |rfl |rfl |rfl
  ·exact trivial
  ·exact trivial
  ·exact trivial
  ·exact trivial
  ·exact trivial
  ·exact hint _
  ·exact hint _
  ·exact trivial
 intro t ht
 simp only [ft.ts,List.mem_cons,List.not_mem_nil,or_false] at ht
 rcases ht with rfl |rfl |rfl |rfl |rfl
 ·intro t ht
  obtain ⟨x,_,hx⟩:=List.mem_flatMap.1 ht
  exact h4 x t hx
 ·exact hint _ _
 ·exact trivial
 ·exact hint _ _
 ·exact trivial
def ft.new (l:List OV):ft:=⟨l,List.replicate l.length 0,0,[],0⟩
theorem GF {J:AH O} {a:SA} {l:List OV} (ha:ss a l) (hn:l.length<=1000):Ok (Vx [.sl a l.length] J) fun q=>(∃ a' b c,q.1=.agg ((ft.new l).cells a' b c)/\(ft.new l).At a' b c)/\Ext J q.2:=by
 refine (yY (ts:=(ft.new l).ts) (s:=Zb) (ft.new l).ER ?_).mono fun q ⟨⟨vs,g1,g2⟩,g3⟩=>?_
 ·(unfold Zb;refine bZ ?_)
  have fl:=SY .u64 l.length
  generalize hJ:AH.put _ J.next _=J1
  have n1:J1.next=J.next+2:=by rw [<-hJ];simp only [aO]
  have b1:J1.aa (J.next+1)=some (.cells true qj ((List.replicate l.length (0:Int)).map (.i .u64))):=by rw [<-hJ,<-fl];((try simp only [aO] at *);simp -implicitDefEqProofs (disch:=(first |omega |rfl |assumption |(simp only [aO];first |omega |assumption))) only [aH,aA,bA,au])
  have E1:Ext J J1:=by
   refine ⟨by omega,fun b hb=>?_⟩
   rw [<-hJ]
   ((try simp only [aO] at *);simp -implicitDefEqProofs (disch:=(first |omega |rfl |assumption |(simp only [aO];first |omega |assumption))) only [aH,aA,bA,au])
  clear hJ
  have on:Ow J1 (gl (List.replicate l.length 0)) (.sl (.loc (.n (J.next+1)) 0 1) l.length) [J.next+1]:=by
   have:=Ow.leaves (J:=J1) (el:=qj) (es:=1) (n:=(List.replicate l.length (0:Int)).length) (a:=.loc (.n (J.next+1)) 0 1) (xs:=(List.replicate l.length (0:Int)).map (.i .u64)) (aY.new (by simp) b1 (by omega)) (eI _)
   rw [<-dA] at this
   unfold gl
   rw [List.length_replicate] at this ⊢
   exact this
  refine U.2 ⟨_,rfl,E1,[]++([J.next+1]++[]),.cons (.im (ha.im _)) (.cons on (dy.im (.cons (.lf rfl) (.cons (qt (l:=[]) (Row.nil (ku .i64))) (.cons (.lf rfl) .nil)))) (by simp)) (by simp),fun b hb=>by simp at hb;omega⟩
 ·obtain ⟨a',b,c,rfl,g4⟩:=ft.un g2
  exact ⟨⟨a',b,c,g1,g4⟩,g3⟩
end Go.Abs.Tryz
set_option maxHeartbeats 8000000
namespace Go.Abs.Tryz
open Go Go.Abs
variable {O:Type}
set_option maxRecDepth 100000 in
theorem A9 {J:AH O} {s:ft} {a b c:SA} (hs:s.At a b c) {i:Int} (hi:i<0):Ok (CS [.agg (s.cells a b c),.i .i64 i] J) fun q=>(∃ a' b' c',q.1=.aB [.agg (s.cells a' b' c'),.i .u64 0]/\s.At a' b' c')/\Ext J q.2:=by
 refine (gT (ts:=s.ts) (s:=Mh LW Ni) (rest:=[.i .u64 0]) s.deep rfl ?_).mono fun q ⟨⟨vs,g1,g2⟩,g3⟩=>?_
 ·have d:=decide_eq_true hi
  simp only [ft.cells]
  (unfold Mh;refine kf d ?_)
  refine bZ ?_
  refine U.2 ⟨_,rfl,jO.im (ft.KO hs) rj⟩
 ·obtain ⟨a',b',c',rfl,g4⟩:=ft.un g2
  exact ⟨⟨a',b',c',g1,g4⟩,g3⟩
def ft.again (s:ft) (l:Bool):ft:={s with steps:=s.steps+if l then 2 else 1}
set_option maxRecDepth 100000 in
theorem Ba {J:AH O} {s:ft} {a b c:SA} (hs:s.At a b c) (hn:s.l.length<=1000) {i:Nat} {o:OV} (ho:s.l[i]? = some o) {x:Int} (hx:s.now[i]? = some x) (x0:x≠0) (h5:0<=s.steps/\s.steps<=1000000):Ok (CS [.agg (s.cells a b c),.i .i64 (i:Int)] J) fun q=>(∃ a' b' c',q.1=.aB [.agg ((s.again o.h.l).cells a' b' c'),.i .u64 x]/\(s.again o.h.l).At a' b' c')/\Ext J q.2:=by
 refine (gT (ts:=(s.again o.h.l).ts) (s:=Mh LW Ni) (rest:=[.i .u64 x]) (s.again o.h.l).deep rfl ?_).mono fun q ⟨⟨vs,g1,g2⟩,g3⟩=>?_
 ·have il:=(List.getElem?_eq_some_iff.1 ho).1
  have inl:=(List.getElem?_eq_some_iff.1 hx).1
  have d:decide ((i:Int)<0)=false:=decide_eq_false (by omega)
  obtain ⟨bb,oo,cP,cR,rfl,hP,hR,vH⟩:=hs.l.obj ho
  have ld:=vH O
  have l0:=fun J:AH O=>(ld J).1
  have l1:=fun J:AH O=>(ld J).2.1
  have l2:=fun J:AH O=>(ld J).2.2.1
  have l3:=fun J:AH O=>(ld J).2.2.2.1
  have l4:=fun J:AH O=>(ld J).2.2.2.2.1
  have l5:=fun J:AH O=>(ld J).2.2.2.2.2.1
  have l6:=fun J:AH O=>(ld J).2.2.2.2.2.2.1
  have l7:=fun J:AH O=>(ld J).2.2.2.2.2.2.2
  obtain ⟨b2,o2,rfl,Cw⟩:=hs.now.at hx
  have n0:=fun J:AH O=>Cw O J
  have xz:(x == 0)=false:=by rw [beq_eq_false_iff_ne];exact x0
  simp only [ft.cells]
  have ES:∀ (τ:AH O) (x:eY O),(τ.put (J.next+1) x).aa J.next=τ.aa J.next:=fun τ x=>aA (by omega)
  have Zc:∀ (τ:AH O) (x:eY O),(τ.put (J.next+2) x).aa J.next=τ.aa J.next:=fun τ x=>aA (by omega)
  have u12:∀ (τ:AH O) (x:eY O),(τ.put (J.next+2) x).aa (J.next+1)=τ.aa (J.next+1):=fun τ x=>aA (by omega)
  have u10:∀ (τ:AH O) (x:eY O),(τ.put J.next x).aa (J.next+1)=τ.aa (J.next+1):=fun τ x=>aA (by omega)
  have u20:∀ (τ:AH O) (x:eY O),(τ.put J.next x).aa (J.next+2)=τ.aa (J.next+2):=fun τ x=>aA (by omega)
  have u21:∀ (τ:AH O) (x:eY O),(τ.put (J.next+1) x).aa (J.next+2)=τ.aa (J.next+2):=fun τ x=>aA (by omega)
  have i0:decide ((0:Int)<=(i:Int))=true:=decide_eq_true (by omega)
  have i1:decide ((i:Int)<(s.l.length:Int))=true:=decide_eq_true (by omega)
  have i2:decide ((i:Int)<(s.now.length:Int))=true:=decide_eq_true (by omega)
  have w1:IntKind.i64.wrap (s.steps+1)=s.steps+1:=cd (by omega)
  have w2:IntKind.i64.wrap (s.steps+2)=s.steps+2:=cd (by omega)
  cases hl:o.h.l with
  |true=>
   rw [hl] at l4
   (unfold Mh;refine kf d ?_)
   simp -implicitDefEqProofs only [ES,Zc,u12,u10,u20,u21,i0,i1,i2,Bool.and_true,Int.toNat_natCast,l0,l1,l2,l3,l4,l5,l6,l7,n0,bne,xz,Bool.not_false,Nat.mul_one,w1,w2,Nat.reduceAdd,Nat.reduceMul,Nat.reduceLT,Int.reduceToNat,Int.reduceAdd,Int.reduceSub,Int.reduceMul,eA,dK,dL,dM,dN,dO,dQ,dS,cM,Nat.reduceLeDiff,decide_true,decide_false]
   exact U.2 ⟨_,rfl,jO.im (ft.KO (s:=s.again true) ⟨hs.l,hs.now,hs.mv⟩) rj⟩
  |false=>
   rw [hl] at l4
   (unfold Mh;refine kf d ?_)
   simp -implicitDefEqProofs only [ES,Zc,u12,u10,u20,u21,i0,i1,i2,Bool.and_true,Int.toNat_natCast,l0,l1,l2,l3,l4,l5,l6,l7,n0,bne,xz,Bool.not_false,Nat.mul_one,w1,w2,Nat.reduceAdd,Nat.reduceMul,Nat.reduceLT,Int.reduceToNat,Int.reduceAdd,Int.reduceSub,Int.reduceMul,eA,dK,dL,dM,dN,dO,dQ,dS,cM,Nat.reduceLeDiff,decide_true,decide_false]
   exact U.2 ⟨_,rfl,jO.im (ft.KO (s:=s.again false) ⟨hs.l,hs.now,hs.mv⟩) rj⟩
 ·obtain ⟨a',b',c',rfl,g4⟩:=ft.un g2
  exact ⟨⟨a',b',c',g1,g4⟩,g3⟩
end Go.Abs.Tryz
namespace Go.Abs.Tryz
open Go Go.Abs
variable {O:Type}
def OV.n (o:OV):Nat:=1+o.P.length+o.R.length
def ft.jP (s:ft) (o:OV):OV:={o with h:=o.h.aI,word:=if o.h.l then o.word else 2*s.top+1}
def ft.fh (s:ft) (i:Nat) (o:OV):ft:=⟨s.l.set i (s.jP o),s.now.set i (s.jP o).word,if o.h.l then s.top else s.top+o.n,s.mv++[(i:Int)],s.steps+if o.h.l then 18 else 2*(o.n:Int)+3⟩
set_option maxRecDepth 100000 in
theorem Bb {J:AH O} {s:ft} {a b c:SA} (hs:s.At a b c) (hn:s.l.length<=1000) (hnn:s.now.length<=1000) (hm:s.mv.length<=1000) {i:Nat} {o:OV} (ho:s.l[i]? = some o) (hx:s.now[i]? = some 0) (h5:0<=s.steps/\s.steps<=1000000) (ht:0<=s.top/\s.top<=1000000) (ok:o.h.ok) (hP:o.P.length<=1000) (hR:o.R.length<=1000):Ok (CS [.agg (s.cells a b c),.i .i64 (i:Int)] J) fun q=>(∃ a' b' c',q.1=.aB [.agg ((s.fh i o).cells a' b' c'),.i .u64 (s.jP o).word]/\(s.fh i o).At a' b' c')/\Ext J q.2:=by
 refine (gT (ts:=(s.fh i o).ts) (s:=Mh LW Ni) (rest:=[.i .u64 (s.jP o).word]) (s.fh i o).deep rfl ?_).mono fun q ⟨⟨vs,g1,g2⟩,g3⟩=>?_
 ·have il:=(List.getElem?_eq_some_iff.1 ho).1
  have inl:=(List.getElem?_eq_some_iff.1 hx).1
  have d:decide ((i:Int)<0)=false:=decide_eq_false (by omega)
  obtain ⟨bb,oo,cP,cR,rfl,hiP,hiR,vH⟩:=hs.l.obj ho
  have ld:=vH O
  have l0:=fun J:AH O=>(ld J).1
  have l1:=fun J:AH O=>(ld J).2.1
  have l2:=fun J:AH O=>(ld J).2.2.1
  have l3:=fun J:AH O=>(ld J).2.2.2.1
  have l4:=fun J:AH O=>(ld J).2.2.2.2.1
  have l5:=fun J:AH O=>(ld J).2.2.2.2.2.1
  have l6:=fun J:AH O=>(ld J).2.2.2.2.2.2.1
  have l7:=fun J:AH O=>(ld J).2.2.2.2.2.2.2
  obtain ⟨vs,v1,v2,v3⟩:=hs.l.all
  have rN:∀ J:AH O,J.bT b s.now.length 1=some (s.now.map (AV.i .u64)):=fun J=>(hs.now.Vw O J).bT
  have rM:∀ J:AH O,J.bT c s.mv.length 1=some (s.mv.map (AV.i .i64)):=fun J=>(hs.mv.Vw O J).bT
  obtain ⟨b2,o2,rfl,Cw⟩:=hs.now.at hx
  have n0:=fun J:AH O=>Cw O J
  have z0:((0:Int) == 0)=true:=rfl
  have ES:∀ (τ:AH O) (x:eY O),(τ.put (J.next+1) x).aa J.next=τ.aa J.next:=fun τ x=>aA (by omega)
  have Zc:∀ (τ:AH O) (x:eY O),(τ.put (J.next+2) x).aa J.next=τ.aa J.next:=fun τ x=>aA (by omega)
  have i0:decide ((0:Int)<=(i:Int))=true:=decide_eq_true (by omega)
  have i1:decide ((i:Int)<(s.l.length:Int))=true:=decide_eq_true (by omega)
  have i2:decide ((i:Int)<(s.now.length:Int))=true:=decide_eq_true (by omega)
  simp only [ft.cells]
  (unfold Mh;refine kf d ?_)
  simp -implicitDefEqProofs only [ES,Zc,i0,i1,i2,Bool.and_true,Int.toNat_natCast,l0,l1,l2,l3,l4,l5,l6,l7,n0,bne,z0,Bool.not_true,Nat.mul_one,Nat.reduceAdd,Nat.reduceMul,Nat.reduceLT,Int.reduceToNat,Int.reduceAdd,Int.reduceSub,Int.reduceMul,eA,dK,dL,dM,dN,dO,dQ,dS,cM,Nat.reduceLeDiff,decide_true,decide_false]
  refine rl rN v3 @iN @dd (cj @bR (cj @cI @bA)) ?_
  generalize hJ:AH.put _ J.next _=J1
  have n1:J1.next=J.next+7:=by rw [<-hJ];simp only [aO]
  have b0:J1.aa J.next=some (.cells true 63 [.sl (.loc (.n (J.next+6)) 0 8) s.l.length,.sl (.loc (.n (J.next+4)) 0 1) s.now.length,.i .i64 s.top,.sl c s.mv.length,.i .i64 s.steps]):=by rw [<-hJ];exact aH
  have b1:J1.aa (J.next+1)=some (.cells true 63 [.sl .nil 0,.sl .nil 0,.i .i64 0,.sl .nil 0,.i .i64 0]):=by rw [<-hJ];((try simp only [aO] at *);simp -implicitDefEqProofs (disch:=(first |omega |rfl |assumption |(simp only [aO];first |omega |assumption))) only [aH,aA,bA,au])
  have bo:J1.aa (J.next+2)=some (.cells true 42 [.i .i64 (o.h.p:Int),.i .i64 (o.h.r:Int),.i .i64 (o.h.s:Int),.i .i64 (o.h.g:Int),.b o.h.l,.sl cP o.P.length,.sl cR o.R.length,.i .u64 o.word]):=by rw [<-hJ];((try simp only [aO] at *);simp -implicitDefEqProofs (disch:=(first |omega |rfl |assumption |(simp only [aO];first |omega |assumption))) only [aH,aA,bA,au])
  have bN:J1.aa (J.next+4)=some (.cells true 33 (s.now.map (.i .u64))):=by rw [<-hJ];((try simp only [aO] at *);simp -implicitDefEqProofs (disch:=(first |omega |rfl |assumption |(simp only [aO];first |omega |assumption))) only [aH,aA,bA,au])
  have bL:J1.aa (J.next+6)=some (.cells true 42 vs):=by rw [<-hJ];((try simp only [aO] at *);simp -implicitDefEqProofs (disch:=(first |omega |rfl |assumption |(simp only [aO];first |omega |assumption))) only [aH,aA,bA,au])
  have E1:Ext J J1:=by
   refine ⟨by omega,fun b hb=>?_⟩
   rw [<-hJ]
   ((try simp only [aO] at *);simp -implicitDefEqProofs (disch:=(first |omega |rfl |assumption |(simp only [aO];first |omega |assumption))) only [aH,aA,bA,au])
  clear hJ ES Zc
  refine Ok.step (CO J1 ok) fun q ⟨g1,g2⟩=>?_
  obtain ⟨q,J2⟩:=q
  simp only at g1 g2
  subst g1
  have n2:=g2.next
  have b0:=(g2.aa _ (by omega)).trans b0
  have b1:=(g2.aa _ (by omega)).trans b1
  have bo:=(g2.aa _ (by omega)).trans bo
  have bN:=(g2.aa _ (by omega)).trans bN
  have bL:=(g2.aa _ (by omega)).trans bL
  have E2:=E1.trans g2
  simp only [Hd.av]
  have C4:o.h.aI.l=o.h.l:=rfl
  have ew:(s.jP o).word=if o.h.l then o.word else 2*s.top+1:=rfl
  have et:(s.fh i o).top=if o.h.l then s.top else s.top+o.n:=rfl
  have es:(s.fh i o).steps=s.steps+if o.h.l then 18 else 2*(o.n:Int)+3:=rfl
  cases hl:o.h.l
  case' true=>
   rw [hl] at C4 ew et es
   simp only [if_true] at ew et es
   refine jE b0 bo C4 ?_
   generalize hJ:AH.put _ J.next _=J3
   have n3:J.next+7<=J3.next:=by rw [<-hJ];simp only [aO];omega
   have k0:J3.aa J.next=some (.cells true 63 [.sl (.loc (.n (J.next+6)) 0 8) s.l.length,.sl (.loc (.n (J.next+4)) 0 1) s.now.length,.i .i64 (s.fh i o).top,.sl c s.mv.length,.i .i64 (s.fh i o).steps]):=by rw [<-hJ,et,es];exact aH
   have k1:=(show J3.aa (J.next+1)=J2.aa (J.next+1) by rw [<-hJ];((try simp only [aO] at *);simp -implicitDefEqProofs (disch:=(first |omega |rfl |assumption |(simp only [aO];first |omega |assumption))) only [aH,aA,bA,au])).trans b1
   have ko:J3.aa (J.next+2)=some (.cells true 42 [.i .i64 (o.h.aI.p:Int),.i .i64 (o.h.aI.r:Int),.i .i64 (o.h.aI.s:Int),.i .i64 (o.h.aI.g:Int),.b o.h.aI.l,.sl cP o.P.length,.sl cR o.R.length,.i .u64 (s.jP o).word]):=by rw [<-hJ,ew,C4];((try simp only [aO] at *);simp -implicitDefEqProofs (disch:=(first |omega |rfl |assumption |(simp only [aO];first |omega |assumption))) only [aH,aA,bA,au])
   have kN:=(show J3.aa (J.next+4)=J2.aa (J.next+4) by rw [<-hJ];((try simp only [aO] at *);simp -implicitDefEqProofs (disch:=(first |omega |rfl |assumption |(simp only [aO];first |omega |assumption))) only [aH,aA,bA,au])).trans bN
   have kL:=(show J3.aa (J.next+6)=J2.aa (J.next+6) by rw [<-hJ];((try simp only [aO] at *);simp -implicitDefEqProofs (disch:=(first |omega |rfl |assumption |(simp only [aO];first |omega |assumption))) only [aH,aA,bA,au])).trans bL
   have E3:Ext J J3:=by
    refine ⟨by omega,fun b hb=>?_⟩
    rw [<-hJ]
    ((try simp only [aO] at *);simp -implicitDefEqProofs (disch:=(first |omega |rfl |assumption |(simp only [aO];first |omega |assumption))) only [aH,aA,bA,au])
    exact E2.aa b hb
   clear hJ
   have gN:=bN
   rw [<-ew]
  case' false=>
   rw [hl] at C4 ew et es
   simp only [Bool.false_eq_true,if_false] at ew et es
   refine jE b0 bo C4 ?_
   generalize hJ:AH.put J2 (J.next+2) _=J4
   have n4:J4.next=J2.next:=by rw [<-hJ];rfl
   have c4:ei [J.next+2] J2 J4:=⟨by omega,fun b hb hm=>by rw [<-hJ];exact aA (by simpa using hm)⟩
   have fo:J4.aa (J.next+2)=some (.cells true 42 [.i .i64 (o.h.aI.p:Int),.i .i64 (o.h.aI.r:Int),.i .i64 (o.h.aI.s:Int),.i .i64 (o.h.aI.g:Int),.b false,.sl cP o.P.length,.sl cR o.R.length,.i .u64 o.word]):=by rw [<-hJ];exact aH
   have f0:=(c4.aa J.next (by omega) (by simp)).trans b0
   clear hJ
   refine Ok.step (su J4 _ _ _ _ _ _ (n:=o.P.length) (m:=o.R.length) (by omega) (by omega)) fun q ⟨q1,q2⟩=>?_
   obtain ⟨q,J5⟩:=q
   simp only at q1 q2
   subst q1
   have n5:=q2.next
   have h0:=(q2.aa _ (by omega)).trans f0
   have Wg:=(q2.aa _ (by omega)).trans fo
   refine gh h0 Wg ?_
   have e1:s.steps+2*((1+o.P.length+o.R.length:Nat):Int)+3=(s.fh i o).steps:=by rw [es];unfold OV.n;omega
   have e2:s.top+((1+o.P.length+o.R.length:Nat):Int)=(s.fh i o).top:=by rw [et];rfl
   rw [e1]
   generalize hJ:AH.put _ (J.next+2) _=J6
   have n6:J6.next=J5.next:=by rw [<-hJ];rfl
   have c6:ei [J.next,J.next+2] J5 J6:=⟨by omega,fun b hb hm=>by
    simp only [List.mem_cons,List.not_mem_nil,or_false,not_or] at hm
    rw [<-hJ,aA hm.2,aA hm.1]⟩
   have i0:J6.aa J.next=some (.cells true 63 [.sl (.loc (.n (J.next+6)) 0 8) s.l.length,.sl (.loc (.n (J.next+4)) 0 1) s.now.length,.i .i64 s.top,.sl c s.mv.length,.i .i64 (s.fh i o).steps]):=by rw [<-hJ];exact (aA (by omega)).trans aH
   have io:J6.aa (J.next+2)=some (.cells true 42 [.i .i64 (o.h.aI.p:Int),.i .i64 (o.h.aI.r:Int),.i .i64 (o.h.aI.s:Int),.i .i64 (o.h.aI.g:Int),.b false,.sl cP o.P.length,.sl cR o.R.length,.i .u64 (2*s.top+1)]):=by rw [<-hJ];exact aH
   clear hJ
   refine Ok.step (su J6 _ _ _ _ _ _ (n:=o.P.length) (m:=o.R.length) (by omega) (by omega)) fun q ⟨q3,q4⟩=>?_
   obtain ⟨q,J7⟩:=q
   simp only at q3 q4
   subst q3
   have n7:=q4.next
   have j0:=(q4.aa _ (by omega)).trans i0
   have jo:=(q4.aa _ (by omega)).trans io
   have up:∀ b,b<J.next+7->b≠J.next->b≠J.next+2->J7.aa b=J2.aa b:=fun b h1 h2 h3=>by
    rw [q4.aa b (by omega),c6.aa b (by omega) (by simp;omega),q2.aa b (by omega),c4.aa b (by omega) (by simpa using h3)]
   have gN:=(up (J.next+4) (by omega) (by omega) (by omega)).trans bN
   refine gh j0 jo ?_
   rw [e2]
   generalize hJ:AH.put J7 J.next _=J3
   have n3:J.next+7<=J3.next:=by rw [<-hJ];simp only [aO];omega
   have k0:J3.aa J.next=some (.cells true 63 [.sl (.loc (.n (J.next+6)) 0 8) s.l.length,.sl (.loc (.n (J.next+4)) 0 1) s.now.length,.i .i64 (s.fh i o).top,.sl c s.mv.length,.i .i64 (s.fh i o).steps]):=by rw [<-hJ];exact aH
   have k1:=(show J3.aa (J.next+1)=J2.aa (J.next+1) by rw [<-hJ,aA (by omega)];exact up _ (by omega) (by omega) (by omega)).trans b1
   have ko:J3.aa (J.next+2)=some (.cells true 42 [.i .i64 (o.h.aI.p:Int),.i .i64 (o.h.aI.r:Int),.i .i64 (o.h.aI.s:Int),.i .i64 (o.h.aI.g:Int),.b o.h.aI.l,.sl cP o.P.length,.sl cR o.R.length,.i .u64 (s.jP o).word]):=by rw [<-hJ,ew,C4,aA (by omega)];exact jo
   have kN:=(show J3.aa (J.next+4)=J2.aa (J.next+4) by rw [<-hJ,aA (by omega)];exact up _ (by omega) (by omega) (by omega)).trans bN
   have kL:=(show J3.aa (J.next+6)=J2.aa (J.next+6) by rw [<-hJ,aA (by omega)];exact up _ (by omega) (by omega) (by omega)).trans bL
   have E3:Ext J J3:=by
    refine ⟨by omega,fun b hb=>?_⟩
    rw [<-hJ,aA (by omega),up b (by omega) (by omega) (by omega)]
    exact E2.aa b hb
   clear hJ
   rw [<-ew]
  all_goals
   have kb:(i+1).ble (s.now.map (AV.i .u64)).length=true:=by rw [List.length_map];exact Nat.ble_eq_true_of_le inl
   have ks:∀ w:Int,bQ (s.now.map (AV.i .u64)) i [.i .u64 w]=(s.now.set i w).map (AV.i .u64):=fun w=>by rw [jg (by simpa using inl),List.map_set]
   have ib:(i*8+8).ble vs.length=true:=by rw [v1];exact Nat.ble_eq_true_of_le (by omega)
   refine rl k0 ko gN kN (cj kL (cj k1 (cj kb (cj ks (cj ib (cj rM (cj @iN (cj @dd (cj @bR (cj @cI @bA)))))))))) ?_
   generalize hJ:AH.put _ (J3.next+1+1) _=J8
   have n8:J8.next=J3.next+4:=by rw [<-hJ];simp only [aO]
   have m0:=(show J8.aa J.next=J3.aa J.next by rw [<-hJ];((try simp only [aO] at *);simp -implicitDefEqProofs (disch:=(first |omega |rfl |assumption |(simp only [aO];first |omega |assumption))) only [aH,aA,bA,au])).trans k0
   have m1:=(show J8.aa (J.next+1)=J3.aa (J.next+1) by rw [<-hJ];((try simp only [aO] at *);simp -implicitDefEqProofs (disch:=(first |omega |rfl |assumption |(simp only [aO];first |omega |assumption))) only [aH,aA,bA,au])).trans k1
   have mo:=(show J8.aa (J.next+2)=J3.aa (J.next+2) by rw [<-hJ];((try simp only [aO] at *);simp -implicitDefEqProofs (disch:=(first |omega |rfl |assumption |(simp only [aO];first |omega |assumption))) only [aH,aA,bA,au])).trans ko
   have mN:J8.aa (J.next+4)=some (.cells true qj ((s.now.set i (s.jP o).word).map (.i .u64))):=by rw [<-hJ];((try simp only [aO] at *);simp -implicitDefEqProofs (disch:=(first |omega |rfl |assumption |(simp only [aO];first |omega |assumption))) only [aH,aA,bA,au])
   have mL:J8.aa (J.next+6)=some (.cells true Dk (bQ vs (i*8) [.i .i64 (o.h.aI.p:Int),.i .i64 (o.h.aI.r:Int),.i .i64 (o.h.aI.s:Int),.i .i64 (o.h.aI.g:Int),.b o.h.aI.l,.sl cP o.P.length,.sl cR o.R.length,.i .u64 (s.jP o).word])):=by rw [<-hJ];((try simp only [aO] at *);simp -implicitDefEqProofs (disch:=(first |omega |rfl |assumption |(simp only [aO];first |omega |assumption))) only [aH,aA,bA,au])
   have mM:J8.aa (J3.next+1)=some (.cells true 3 (s.mv.map (.i .i64))):=by rw [<-hJ];((try simp only [aO] at *);simp -implicitDefEqProofs (disch:=(first |omega |rfl |assumption |(simp only [aO];first |omega |assumption))) only [aH,aA,bA,au])
   have E8:Ext J J8:=by
    refine ⟨by omega,fun b hb=>?_⟩
    rw [<-hJ]
    ((try simp only [aO] at *);simp -implicitDefEqProofs (disch:=(first |omega |rfl |assumption |(simp only [aO];first |omega |assumption))) only [aH,aA,bA,au])
    exact E3.aa b hb
   clear hJ k0 k1 ko kN kL gN bN bL
   refine Ok.step (jf (nid:=J3.next+1+1+1) (aY.new (J:=J8) (n:=s.mv.length) (es:=1) (by simp) mM (by omega)) (by simp only [SA.bk,List.mem_singleton];omega) (by omega) (m:=1) (new:=[AV.i .i64 _]) rfl) fun q ⟨a',q1,q2,q3,q4,q5⟩=>?_
   obtain ⟨q,J9⟩:=q
   simp only at q1 q2 q3 q4
   subst q1
   have GD:∀ b,b≠J3.next+3->b≠J3.next+1->J9.aa b=J8.aa b:=fun b h1 h2=>q4 b (by omega) (by simp only [SA.bk,List.mem_singleton];omega)
   have p0:=(GD J.next (by omega) (by omega)).trans m0
   have p1:=(GD (J.next+1) (by omega) (by omega)).trans m1
   have po:=(GD (J.next+2) (by omega) (by omega)).trans mo
   have pN:=(GD (J.next+4) (by omega) (by omega)).trans mN
   have pL:=(GD (J.next+6) (by omega) (by omega)).trans mL
   have E9:Ext J J9:=⟨by have:=E8.next;omega,fun b hb=>(GD b (by omega) (by omega)).trans (E8.aa b hb)⟩
   refine jE p0 p1 po ?_
   have all:=tC (J:=J9) v2 il (dy.im (OV.KO (x:=s.jP o) (a:=cP) (b:=cR) hiP hiR))
   have slL:Ow J9 (.sl Dk 8 s.l.length ((s.l.set i (s.jP o)).flatMap OV.row)) (.sl (.loc (.n (J.next+6)) 0 8) s.l.length) ([J.next+6]++[]):=
    .sl (aY.new (by rw [kK (by rw [v1];show i*8+8<=_;omega),v1]) pL (by omega)).p all (by simp)
   have slN:Ow J9 (gl (s.now.set i (s.jP o).word)) (.sl (.loc (.n (J.next+4)) 0 1) s.now.length) [J.next+4]:=by
    have:=Ow.leaves (J:=J9) (el:=qj) (es:=1) (n:=(s.now.set i (s.jP o).word).length) (a:=.loc (.n (J.next+4)) 0 1) (xs:=(s.now.set i (s.jP o).word).map (.i .u64)) (aY.new (by simp) pN (by omega)) (eI _)
    rw [<-dA] at this
    unfold gl
    rw [List.length_set] at this ⊢
    exact this
   have slM:Ow J9 (nX (s.mv++[(i:Int)])) (.sl a' (s.mv.length+1)) (SA.bk a'):=by
    have:=Ow.leaves (J:=J9) (el:=KS) (es:=1) (n:=s.mv.length+1) (a:=a') (xs:=(s.mv++[(i:Int)]).map (.i .i64)) (by rw [List.map_append];exact q2) (eI _)
    rw [<-dA] at this
    unfold nX
    rw [List.length_append]
    exact this
   have FQ:∀ b∈SA.bk a',b=J3.next+3:=fun b hb=>by have:=q5 b hb;omega
   have o1:dy J9 (s.fh i o).ts [.sl (.loc (.n (J.next+6)) 0 8) s.l.length,.sl (.loc (.n (J.next+4)) 0 1) s.now.length,.i .i64 (s.fh i o).top,.sl a' (s.mv.length+1),.i .i64 (s.fh i o).steps] (([J.next+6]++[])++([J.next+4]++([]++(SA.bk a'++([]++[]))))):=by
    unfold ft.ts
    have e3:(s.fh i o).l.length=s.l.length:=List.length_set
    have e4:(s.fh i o).l=s.l.set i (s.jP o):=rfl
    have e5:(s.fh i o).now=s.now.set i (s.jP o).word:=rfl
    have e6:(s.fh i o).mv=s.mv++[(i:Int)]:=rfl
    rw [e3,e4,e5,e6]
    refine .cons slL (.cons slN (.cons (.im (.lf rfl)) (.cons slM (.cons (.im (.lf rfl)) .nil (by simp)) (by simp)) (by simp)) ?_) ?_
    ·intro b hb hm
     simp at hb hm
     have:=FQ b hm
     omega
    ·intro b hb hm
     simp at hb hm
     rcases hm with hm |hm
     ·omega
     ·have:=FQ b hm
      omega
   refine U.2 ⟨_,rfl,?_,_,o1.of (by simp only [aO];omega) fun b hb=>?_,fun b hb=>?_⟩
   ·refine ⟨by simp only [aO];have:=E9.next;omega,fun b hb=>?_⟩
    ((try simp only [aO] at *);simp -implicitDefEqProofs (disch:=(first |omega |rfl |assumption |(simp only [aO];first |omega |assumption))) only [aH,aA,bA,au])
    exact E9.aa b hb
   ·have dI:b=J.next+6 ∨ b=J.next+4 ∨ b=J3.next+3:=by
     simp at hb
     rcases hb with hb |hb |hb
     ·omega
     ·omega
     ·have:=FQ b hb;omega
    ((try simp only [aO] at *);simp -implicitDefEqProofs (disch:=(first |omega |rfl |assumption |(simp only [aO];first |omega |assumption))) only [aH,aA,bA,au])
   ·simp at hb
    rcases hb with hb |hb |hb
    ·omega
    ·omega
    ·have:=FQ b hb;omega
 ·obtain ⟨a',b',c',rfl,g4⟩:=ft.un g2
  exact ⟨⟨a',b',c',g1,g4⟩,g3⟩
end Go.Abs.Tryz
