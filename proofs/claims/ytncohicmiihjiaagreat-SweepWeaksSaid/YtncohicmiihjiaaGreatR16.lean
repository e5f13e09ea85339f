/-
  The document of layer 16 (store): objects as plain data; what is made. No conditions.
-/
import Derived.Test.YtncohicmiihjiaaGreatM20
import Derived.Test.YtncohicmiihjiaaGreatN1
import Derived.Test.YtncohicmiihjiaaGreatS9w
set_option linter.unusedVariables false
set_option linter.unusedSimpArgs false
set_option linter.constructorNameAsVariable false
set_option linter.unusedSimpArgs false
set_option linter.unusedVariables false
set_option linter.unusedSectionVars false
set_option maxHeartbeats 4000000
namespace Go.Abs.Tryz
open Go Go.Abs
variable {O:Type}
theorem Og {J:AH O} {b nid el es m:Nat} {new:List AV} (h:J.aa b=some (.cells true el [])):J.cF nid el es (.loc (.n b) 0 es) 0 m new=some (.sl (.loc (.n nid) 0 es) m,(J.kill b).put nid (.cells true el new)):=by
 simp only [AH.cF,h]
 simp
 rfl
theorem iN {J:AH O} {b nid el es m:Nat} {new:List AV}:(J.put b (.cells true el [])).cF nid el es (.loc (.n b) 0 es) 0 m new=some (.sl (.loc (.n nid) 0 es) m,((J.put b (.cells true el [])).kill b).put nid (.cells true el new)):=Og aH
theorem SY (k:IntKind) (n:Nat):(List.replicate n [AV.i k 0]).flatten=(List.replicate n (0:Int)).map (AV.i k):=by
 induction n with
 |zero=>rfl
 |succ n ih=>simp only [List.replicate_succ,List.flatten_cons,List.map_cons,ih];rfl
structure OV where
 h:Hd
 P:List Int
 R:List Int
 word:Int
def gl (l:List Int):TV:=.sl qj 1 l.length (l.flatMap (nI .u64))
theorem qs {l:List Int} {v:AV} (h:Im (gl l) v):∃ a,v=.sl a l.length/\Ints .u64 a l:=Row.of (ku .u64) h rfl
theorem ju {l:List Int} {a:SA} (h:Ints .u64 a l):Im (gl l) (.sl a l.length):=h.im _
def OV.row (x:OV):List TV:=x.h.av.map TV.lf++[gl x.P,gl x.R,.lf (.i .u64 x.word)]
theorem OV.len (x:OV):x.row.length=8:=rfl
def OV.cells (x:OV) (a b:SA):List AV:=[.i .i64 (x.h.p:Int),.i .i64 (x.h.r:Int),.i .i64 (x.h.s:Int),.i .i64 (x.h.g:Int),.b x.h.l,.sl a x.P.length,.sl b x.R.length,.i .u64 x.word]
theorem OV.un {x:OV} {us:List AV} (h:fF x.row us):∃ a b,us=x.cells a b/\Ints .u64 a x.P/\Ints .u64 b x.R:=by
 unfold OV.row Hd.av at h
 cases h with
 |cons h0 h=>cases h with
 |cons h1 h=>cases h with
 |cons h2 h=>cases h with
 |cons h3 h=>cases h with
 |cons h4 h=>cases h with
 |cons h5 h=>cases h with
 |cons h6 h=>cases h with
 |cons h7 h=>cases h with
 |nil=>
  obtain ⟨a,rfl,ia⟩:=qs h5
  obtain ⟨b,rfl,ib⟩:=qs h6
  rw [h0.leaf,h1.leaf,h2.leaf,h3.leaf,h4.leaf,h7.leaf]
  exact ⟨a,b,rfl,ia,ib⟩
theorem OV.KO {x:OV} {a b:SA} (ha:Ints .u64 a x.P) (hb:Ints .u64 b x.R):fF x.row (x.cells a b):=
 .cons (.lf rfl) (.cons (.lf rfl) (.cons (.lf rfl) (.cons (.lf rfl) (.cons (.lf rfl) (.cons (ju ha) (.cons (ju hb) (.cons (.lf rfl) .nil)))))))
theorem OV.deep (x:OV):∀ t∈x.row,t.deep 4:=by
 intro t ht
 simp only [OV.row,Hd.av,List.map_cons,List.map_nil,List.cons_append,List.nil_append,List.mem_cons,List.not_mem_nil,or_false] at ht
 have hint:∀ (l:List Int),∀ t∈l.flatMap (nI .u64),t.deep 3:=fun l t ht=>by
  obtain ⟨n,_,hn⟩:=List.mem_flatMap.1 ht
  simp only [nI,List.mem_singleton] at hn
  subst hn;exact trivial
 rcases ht with rfl |rfl |rfl |rfl |rfl |rfl |rfl |rfl
 ·exact trivial
 ·exact trivial
 ·exact trivial
 ·exact trivial
 ·exact trivial
 ·exact hint _
 ·exact hint _
 ·exact trivial
abbrev ss (a:SA) (l:List OV):Prop:=Row OV.row 8 a l
theorem ss.obj {a:SA} {D:List OV} (h:ss a D) {i:Nat} {x:OV} (hx:D[i]? = some x):∃ b o c d,a=.loc b o 8/\Ints .u64 c x.P/\Ints .u64 d x.R/\∀ (O:Type) (J:AH O),
  J.ld b (o+i*8)=some (.i .i64 (x.h.p:Int))/\J.ld b (o+i*8+1)=some (.i .i64 (x.h.r:Int))/\J.ld b (o+i*8+2)=some (.i .i64 (x.h.s:Int))/\J.ld b (o+i*8+3)=some (.i .i64 (x.h.g:Int))/\J.ld b (o+i*8+4)=some (.b x.h.l)/\J.ld b (o+i*8+5)=some (.sl c x.P.length)/\J.ld b (o+i*8+6)=some (.sl d x.R.length)/\J.ld b (o+i*8+7)=some (.i .u64 x.word):=by
 obtain ⟨b,o,us,e,h1,h2⟩:=h.get hx
 obtain ⟨c,d,rfl,hc,hd⟩:=OV.un h1
 refine ⟨b,o,c,d,e,hc,hd,fun O J=>⟨?_,?_,?_,?_,?_,?_,?_,?_⟩⟩
 ·exact h2 O J 0 (by decide)
 ·exact h2 O J 1 (by decide)
 ·exact h2 O J 2 (by decide)
 ·exact h2 O J 3 (by decide)
 ·exact h2 O J 4 (by decide)
 ·exact h2 O J 5 (by decide)
 ·exact h2 O J 6 (by decide)
 ·exact h2 O J 7 (by decide)
theorem Dj (J:AH O) {h:Hd} (k:h.ok):Ok (SZ [.agg [.i .i64 (h.p:Int),.i .i64 (h.r:Int),.i .i64 (h.s:Int),.i .i64 (h.g:Int),.b h.l]] J) fun q=>q.1=.i .i64 0/\Ext J q.2:=by
 have f0:(false == false)=true:=rfl
 have h1:=k.p;have h2:=k.r;have h3:=k.s;have h4:=k.g
 have d1:decide ((h.p:Int)<0)=false:=decide_eq_false (by omega)
 have d2:decide ((h.p:Int) > 4095)=false:=decide_eq_false (by omega)
 have d3:decide ((h.r:Int)<0)=false:=decide_eq_false (by omega)
 have d4:decide ((h.r:Int) > 4095)=false:=decide_eq_false (by omega)
 have d5:decide ((h.s:Int)<0)=false:=decide_eq_false (by omega)
 have d6:decide ((h.s:Int) > 31)=false:=decide_eq_false (by omega)
 have d7:decide ((h.g:Int)<0)=false:=decide_eq_false (by omega)
 have d8:decide ((h.g:Int) > 7)=false:=decide_eq_false (by omega)
 (unfold SZ qko;refine rl d1 d2 d3 d4 (cj d5 (cj d6 (cj d7 (cj d8 f0)))) ?_)
 exact U.2 ⟨rfl,rj⟩
theorem A8 (J:AH O) {p r:Nat} (h1:p<4096) (h2:r<4096):Ok (S0 [.agg [.i .i64 (p:Int),.i .i64 (r:Int)]] J) fun q=>q.1=.i .i64 ((1+p+r:Nat):Int)/\Ext J q.2:=by
 have t0:(true == true)=true:=rfl
 have d1:decide ((p:Int)>=0)=true:=decide_eq_true (by omega)
 have d2:decide ((p:Int)<4096)=true:=decide_eq_true (by omega)
 have d3:decide ((r:Int)>=0)=true:=decide_eq_true (by omega)
 have d4:decide ((r:Int)<4096)=true:=decide_eq_true (by omega)
 (unfold S0 qkj qkf qke;refine rl d1 d2 d3 d4 t0 ?_)
 exact U.2 ⟨by show AV.i _ _=AV.i _ _;congr 1<;>omega,rj⟩
structure gi where
 size:Int
 top:Int
 eu:Int
 l:List OV
def gi.ts (s:gi):List TV:=[.lf (.i .i64 8),.lf (.i .i64 s.size),.lf (.i .i64 s.top),.lf (.i .i64 s.eu),.sl Dk 8 s.l.length (s.l.flatMap OV.row)]
def gi.cells (s:gi) (a:SA):List AV:=[.i .i64 8,.i .i64 s.size,.i .i64 s.top,.i .i64 s.eu,.sl a s.l.length]
theorem gi.un {s:gi} {us:List AV} (h:fF s.ts us):∃ a,us=s.cells a/\ss a s.l:=by
 unfold gi.ts at h
 cases h with
 |cons h0 h=>cases h with
 |cons h1 h=>cases h with
 |cons h2 h=>cases h with
 |cons h3 h=>cases h with
 |cons h4 h=>cases h with
 |nil=>
  obtain ⟨a,rfl,ia⟩:=Row.of OV.len h4 rfl
  rw [h0.leaf,h1.leaf,h2.leaf,h3.leaf]
  exact ⟨a,rfl,ia⟩
theorem gi.deep (s:gi):∀ t∈s.ts,t.deep 5:=by
 intro t ht
 simp only [gi.ts,List.mem_cons,List.not_mem_nil,or_false] at ht
 rcases ht with rfl |rfl |rfl |rfl |rfl
 ·exact trivial
 ·exact trivial
 ·exact trivial
 ·exact trivial
 ·intro t ht
  obtain ⟨x,_,hx⟩:=List.mem_flatMap.1 ht
  exact x.deep t hx
def pX (p r st:Nat) (l:Bool) (w:Int):OV:=⟨⟨p,r,st,0,l⟩,List.replicate p 0,List.replicate r 0,w⟩
def gi.word (s:gi) (p r:Nat):Int:=if 8<1+p+r then 2*(s.eu+1) else 2*s.top+1
def gi.made (s:gi) (p r st:Nat):gi:=if 8<1+p+r then {s with eu:=s.eu+1,l:=s.l++[pX p r st true (s.word p r)]} else {s with top:=s.top+(1+p+r:Nat),l:=s.l++[pX p r st false (s.word p r)]}
theorem KP {J:AH O} {x:OV} {c d:Nat} (hc:J.aa c=some (.cells true qj (x.P.map (.i .u64)))) (hd:J.aa d=some (.cells true qj (x.R.map (.i .u64)))) (h1:c<J.next) (h2:d<J.next) (h3:c≠d):dy J x.row (x.cells (.loc (.n c) 0 1) (.loc (.n d) 0 1)) ([c]++[d]):=by
 have op:Ow J (gl x.P) (.sl (.loc (.n c) 0 1) x.P.length) [c]:=by
  have:=Ow.leaves (J:=J) (el:=qj) (es:=1) (n:=x.P.length) (a:=.loc (.n c) 0 1) (xs:=x.P.map (.i .u64)) (aY.new (by simp) hc h1) (eI _)
  rw [<-dA] at this;exact this
 have S5:Ow J (gl x.R) (.sl (.loc (.n d) 0 1) x.R.length) [d]:=by
  have:=Ow.leaves (J:=J) (el:=qj) (es:=1) (n:=x.R.length) (a:=.loc (.n d) 0 1) (xs:=x.R.map (.i .u64)) (aY.new (by simp) hd h2) (eI _)
  rw [<-dA] at this;exact this
 have h5:=dy.app (dy.im (J:=J) (fF.EN (vs:=x.h.av) rfl)) (dy.cons op (dy.cons S5 (dy.im (J:=J) (fF.EN (vs:=[.i .u64 x.word]) rfl)) (by simp)) (by simpa using h3)) (by simp)
 simpa [OV.row,OV.cells,Hd.av] using h5
end Go.Abs.Tryz
namespace Go.Abs.Tryz
open Go Go.Abs
variable {O:Type}
theorem Jh {J:AH O} {a:SA} {s:gi} (ha:ss a s.l) (hn:s.l.length<=1000) {p r st:Nat} (hp:p<=15) (hr:r<=15) (hs:st<32) (ht:0<=s.top/\s.top<=100000) (hg:0<=s.eu/\s.eu<=100000) (kA:s.size<=100000) (Ai:1+p+r<=8->((1+p+r:Nat):Int)<=s.size - s.top):
  Ok (Xa [.agg (s.cells a),.agg [.i .i64 (p:Int),.i .i64 (r:Int)],.i .i64 (st:Int)] J) fun q=>(∃ a',q.1=.aB [.agg ((s.made p r st).cells a'),.i .u64 (s.word p r),.i .i64 0]/\ss a' (s.made p r st).l)/\Ext J q.2:=by
 refine (gT (ts:=(s.made p r st).ts) (s:=Y7 S0 SZ) (rest:=[.i .u64 (s.word p r),.i .i64 0]) (s.made p r st).deep rfl ?_).mono fun q ⟨⟨vs,g1,g2⟩,g3⟩=>?_
 ·simp only [gi.cells]
  (unfold Y7;refine bZ ?_)
  refine Ok.step (A8 _ (p:=p) (r:=r) (by omega) (by omega)) fun q ⟨g1,g2⟩=>?_
  obtain ⟨q,J1⟩:=q
  simp only at g1 g2
  subst g1
  have nx:=g2.next
  simp only [aO] at nx
  have b0:J1.aa J.next=some (.cells true 105 [.i .i64 8,.i .i64 s.size,.i .i64 s.top,.i .i64 s.eu,.sl a s.l.length]):=(g2.aa _ (by simp)).trans (by exact hU)
  have b1:J1.aa (J.next+1)=some (.cells true 37 [.i .i64 (p:Int),.i .i64 (r:Int)]):=(g2.aa _ (by simp)).trans (by exact hU)
  have b2:J1.aa (J.next+1+1)=some (.cells true 105 [.i .i64 0,.i .i64 0,.i .i64 0,.i .i64 0,.sl .nil 0]):=(g2.aa _ (by simp)).trans (by exact hU)
  obtain ⟨vs,v1,v2,v3⟩:=ha.all
  have z0:((0:Int) != 0)=false:=rfl
  refine gh b0 b1 ?_
  have ck:=fun (J:AH O) (l:Bool)=>Dj J (h:=⟨p,r,st,0,l⟩) ⟨by simp only;omega,by simp only;omega,hs,by show 0<8;omega⟩
  refine Ok.step (ck _ _) fun q ⟨g3,g4⟩=>?_
  obtain ⟨q,J2⟩:=q
  simp only at g3 g4
  subst g3
  have nx2:=g4.next
  simp only [aO] at nx2
  have E2:Ext J1 J2:=by
   exact ⟨by omega,fun b hb=>(g4.aa b (by simp;omega)).trans (by exact hU)⟩
  have c0:=(E2.aa J.next (by omega)).trans b0
  have c1:=(E2.aa (J.next+1) (by omega)).trans b1
  have c2:=(E2.aa (J.next+1+1) (by omega)).trans b2
  have eml:(s.made p r st).l=s.l++[pX p r st (decide (8<1+p+r)) (s.word p r)]:=by
   unfold gi.made;split
   ·next h=>rw [decide_eq_true h]
   ·next h=>rw [decide_eq_false h]
  have emz:(s.made p r st).size=s.size:=by unfold gi.made;split<;>rfl
  have c3:J2.aa J1.next=some (.cells true 39 [.i .i64 (p:Int),.i .i64 (r:Int),.i .i64 (st:Int),.i .i64 0,.b (decide (((1+p+r:Nat):Int) > 8))]):=(g4.aa _ (by simp)).trans (by exact hU)
  clear g4
  by_cases hb:8<1+p+r
  case' pos=>
   have d0:decide (((1+p+r:Nat):Int) > 8)=true:=decide_eq_true (by omega)
   have dl:decide (8<1+p+r)=true:=decide_eq_true hb
   have ew:s.word p r=2*(s.eu+1):=by unfold gi.word;rw [if_pos hb]
   have et:(s.made p r st).top=s.top:=by unfold gi.made;rw [if_pos hb]
   have el:(s.made p r st).eu=s.eu+1:=by unfold gi.made;rw [if_pos hb]
   rw [d0] at c3
   refine rl z0 c0 c1 c2 (cj c3 (cj v3 (cj @iN (cj @dd (cj @bR (cj @cI @bA)))))) ?_
  case' neg=>
   have d0:decide (((1+p+r:Nat):Int) > 8)=false:=decide_eq_false (by omega)
   have dl:decide (8<1+p+r)=false:=decide_eq_false hb
   have ew:s.word p r=2*s.top+1:=by unfold gi.word;rw [if_neg hb]
   have et:(s.made p r st).top=s.top+((1+p+r:Nat):Int):=by unfold gi.made;rw [if_neg hb]
   have el:(s.made p r st).eu=s.eu:=by unfold gi.made;rw [if_neg hb]
   have d1:decide (((1+p+r:Nat):Int) > s.size - s.top)=false:=decide_eq_false (by have:=Ai (by omega);omega)
   rw [d0] at c3
   refine rl z0 c0 c1 c2 (cj c3 (cj d1 (cj v3 (cj @iN (cj @dd (cj @bR (cj @cI @bA))))))) ?_
  all_goals
   generalize hJ:AH.put _ (J2.next+3+1+1) _=J3
   have n3:J3.next=J2.next+7:=by rw [<-hJ];simp only [aO]
   have k0:J3.aa J.next=some (.cells true 105 [.i .i64 8,.i .i64 s.size,.i .i64 (s.made p r st).top,.i .i64 (s.made p r st).eu,.sl a s.l.length]):=by rw [<-hJ,et,el];((try simp only [aO] at *);simp -implicitDefEqProofs (disch:=(first |omega |rfl |assumption |(simp only [aO];first |omega |assumption))) only [aH,aA,bA,au])
   have k2:J3.aa (J.next+1+1)=some (.cells true 105 [.i .i64 0,.i .i64 0,.i .i64 0,.i .i64 0,.sl .nil 0]):=by rw [<-hJ];((try simp only [aO] at *);simp -implicitDefEqProofs (disch:=(first |omega |rfl |assumption |(simp only [aO];first |omega |assumption))) only [aH,aA,bA,au]);exact c2
   have k5:J3.aa (J2.next+1+1)=some (.cells true 42 [.i .i64 (p:Int),.i .i64 (r:Int),.i .i64 (st:Int),.i .i64 0,.b (decide (8<1+p+r)),.sl (.loc (.n J2.next) 0 1) p,.sl (.loc (.n (J2.next+1)) 0 1) r,.i .u64 (s.word p r)]):=by rw [<-hJ,ew,dl];((try simp only [aO] at *);simp -implicitDefEqProofs (disch:=(first |omega |rfl |assumption |(simp only [aO];first |omega |assumption))) only [aH,aA,bA,au])
   have kP:J3.aa J2.next=some (.cells true 33 ((List.replicate p (0:Int)).map (.i .u64))):=by rw [<-hJ,<-SY];((try simp only [aO] at *);simp -implicitDefEqProofs (disch:=(first |omega |rfl |assumption |(simp only [aO];first |omega |assumption))) only [aH,aA,bA,au])
   have kR:J3.aa (J2.next+1)=some (.cells true 33 ((List.replicate r (0:Int)).map (.i .u64))):=by rw [<-hJ,<-SY];((try simp only [aO] at *);simp -implicitDefEqProofs (disch:=(first |omega |rfl |assumption |(simp only [aO];first |omega |assumption))) only [aH,aA,bA,au])
   have kL:J3.aa (J2.next+3+1)=some (.cells true 42 vs):=by rw [<-hJ];((try simp only [aO] at *);simp -implicitDefEqProofs (disch:=(first |omega |rfl |assumption |(simp only [aO];first |omega |assumption))) only [aH,aA,bA,au])
   have E3:Ext J J3:=by
    refine ⟨by omega,fun b hb=>?_⟩
    rw [<-hJ]
    ((try simp only [aO] at *);simp -implicitDefEqProofs (disch:=(first |omega |rfl |assumption |(simp only [aO];first |omega |assumption))) only [aH,aA,bA,au])
    rw [E2.aa b (by omega),g2.aa b (by simp;omega)]
    exact hU
   clear hJ c0 c1 c2 c3 b0 b1 b2
   refine Ok.step (jf (nid:=J2.next+3+1+1+1) (aY.new (J:=J3) (n:=s.l.length) (es:=8) v1 kL (by omega)) (by simp [SA.bk]) (by omega) (m:=1) (new:=[AV.i .i64 _,.i .i64 _,.i .i64 _,.i .i64 _,.b _,.sl _ _,.sl _ _,.i .u64 _]) rfl) fun q ⟨a',q1,q2,q3,q4,q5⟩=>?_
   obtain ⟨q,J4⟩:=q
   simp only at q1 q2 q3 q4
   subst q1
   have GD:∀ b,b≠J2.next+6->b≠J2.next+4->J4.aa b=J3.aa b:=fun b h1 h2=>q4 b (by omega) (by simp only [SA.bk,List.mem_singleton];omega)
   have m0:=(GD J.next (by omega) (by omega)).trans k0
   have m2:=(GD (J.next+1+1) (by omega) (by omega)).trans k2
   have m5:=(GD (J2.next+1+1) (by omega) (by omega)).trans k5
   have mP:=(GD J2.next (by omega) (by omega)).trans kP
   have mR:=(GD (J2.next+1) (by omega) (by omega)).trans kR
   have E4:Ext J J4:=⟨by have:=E3.next;omega,fun b hb=>(GD b (by omega) (by omega)).trans (E3.aa b hb)⟩
   refine jE m0 m2 m5 ?_
   have own:=KP (J:=J4) (x:=pX p r st (decide (8<1+p+r)) (s.word p r)) (c:=J2.next) (d:=J2.next+1) mP mR (by omega) (by omega) (by omega)
   have all:dy J4 ((s.l++[pX p r st (decide (8<1+p+r)) (s.word p r)]).flatMap OV.row) (vs++[AV.i .i64 (p:Int),.i .i64 (r:Int),.i .i64 (st:Int),.i .i64 0,.b (decide (8<1+p+r)),.sl (.loc (.n J2.next) 0 1) p,.sl (.loc (.n (J2.next+1)) 0 1) r,.i .u64 (s.word p r)]) ([]++([J2.next]++[J2.next+1])):=by
    rw [List.flatMap_append]
    refine dy.app (dy.im v2) ?_ (by simp)
    simpa [OV.cells,pX] using own
   have Y8:Ow J4 (.sl Dk 8 (s.l.length+1) ((s.l++[pX p r st (decide (8<1+p+r)) (s.word p r)]).flatMap OV.row)) (.sl a' (s.l.length+1)) (SA.bk a'++([]++([J2.next]++[J2.next+1]))):=by
    rw [dl,ew] at all ⊢
    exact .sl q2.p all fun b hb hm=>by
     have:=q5 b hb
     simp at hm
     omega
   refine U.2 ⟨_,rfl,?_,SA.bk a'++([]++([J2.next]++[J2.next+1])),?_,fun b hb=>?_⟩
   ·refine ⟨by simp only [aO];have:=E4.next;omega,fun b hb=>?_⟩
    ((try simp only [aO] at *);simp -implicitDefEqProofs (disch:=(first |omega |rfl |assumption |(simp only [aO];first |omega |assumption))) only [aH,aA,bA,au])
    exact E4.aa b hb
   ·have o1:dy J4 (s.made p r st).ts [.i .i64 8,.i .i64 s.size,.i .i64 (s.made p r st).top,.i .i64 (s.made p r st).eu,.sl a' (s.l.length+1)] ([]++((SA.bk a'++([]++([J2.next]++[J2.next+1])))++[])):=by
     unfold gi.ts
     rw [eml,emz,List.length_append]
     exact (dy.im (fF.EN (vs:=[.i .i64 8,.i .i64 s.size,.i .i64 (s.made p r st).top,.i .i64 (s.made p r st).eu]) rfl)).app (.cons Y8 .nil (by simp)) (by simp)
    rw [List.nil_append,List.append_nil] at o1
    refine o1.of (by simp only [aO];omega) fun b hb=>?_
    have dI:b=J2.next+6 ∨ b=J2.next ∨ b=J2.next+1:=by
     rcases List.mem_append.1 hb with hb |hb
     ·have:=q5 b hb;omega
     ·simp at hb;omega
    ((try simp only [aO] at *);simp -implicitDefEqProofs (disch:=(first |omega |rfl |assumption |(simp only [aO];first |omega |assumption))) only [aH,aA,bA,au])
   ·rcases List.mem_append.1 hb with hb |hb
    ·have:=q5 b hb;omega
    ·simp at hb;omega
 ·obtain ⟨a',rfl,g4⟩:=gi.un g2
  exact ⟨⟨a',g1,g4⟩,g3⟩
end Go.Abs.Tryz
namespace Go.Abs.Tryz
open Go Go.Abs
variable {O:Type}
theorem tC {J:AH O} {l:List OV} {vs u:List AV} {k:Nat} {x:OV} {L:List Nat} (h:fF (l.flatMap OV.row) vs) (hk:k<l.length) (hu:dy J x.row u L):dy J ((l.set k x).flatMap OV.row) (bQ vs (k*8) u) L:=by
 have lu:u.length=8:=hu.len
 have h1:=h.take (k*8)
 have h2:=h.drop ((k+1)*8)
 rw [<-np OV.len] at h1
 rw [<-rT OV.len] at h2
 rw [List.set_eq_take_append_cons_drop,if_pos hk,List.flatMap_append,List.flatMap_cons]
 unfold bQ
 rw [List.append_assoc,lu,show k*8+8=(k+1)*8 by omega]
 have:=(dy.im (J:=J) h1).app (hu.app (dy.im (J:=J) h2) (by simp)) (by simp)
 simpa using this
def gi.fq (s:gi) (i k:Nat) (x:Int):gi:={s with l:=s.l.set i {(s.l.getD i ⟨⟨0,0,0,0,false⟩,[],[],0⟩) with R:=(s.l.getD i ⟨⟨0,0,0,0,false⟩,[],[],0⟩).R.set k x}}
theorem CM {J:AH O} {a:SA} {s:gi} (ha:ss a s.l) (hn:s.l.length<=1000) {i:Nat} {o:OV} (hi:s.l[i]? = some o) (hR:o.R.length<=1000) {k:Nat} (hk:k<o.R.length) (x:Int):
  Ok (R2 [.agg (s.cells a),.i .i64 (i:Int),.i .i64 (k:Int),.i .u64 x] J) fun q=>(∃ a',q.1=.aB [.agg ((s.fq i k x).cells a'),.i .i64 0]/\ss a' (s.fq i k x).l)/\Ext J q.2:=by
 refine (gT (ts:=(s.fq i k x).ts) (s:=Y9 KQ) (rest:=[.i .i64 0]) (s.fq i k x).deep rfl ?_).mono fun q ⟨⟨vs,g1,g2⟩,g3⟩=>?_
 ·simp only [gi.cells]
  have il:=(List.getElem?_eq_some_iff.1 hi).1
  obtain ⟨b,oo,c,d,ea,hP,hR',vH⟩:=ha.obj hi
  obtain ⟨vs,v1,v2,v3⟩:=ha.all
  subst ea
  have ld:=fun J:AH O=>vH O J
  have l0:=fun J:AH O=>(ld J).1
  have l1:=fun J:AH O=>(ld J).2.1
  have l2:=fun J:AH O=>(ld J).2.2.1
  have l3:=fun J:AH O=>(ld J).2.2.2.1
  have l4:=fun J:AH O=>(ld J).2.2.2.2.1
  have l5:=fun J:AH O=>(ld J).2.2.2.2.2.1
  have l6:=fun J:AH O=>(ld J).2.2.2.2.2.2.1
  have l7:=fun J:AH O=>(ld J).2.2.2.2.2.2.2
  have rR:∀ J:AH O,J.bT d o.R.length 1=some (o.R.map (AV.i .u64)):=fun J=>(hR'.Vw O J).bT
  have f0:(false == false)=true:=rfl
  have dn:decide ((k:Int)<0)=false:=decide_eq_false (by omega)
  have dk:decide ((k:Int)>=(o.R.length:Int))=false:=decide_eq_false (by omega)
  have kb:(k+1).ble (o.R.map (AV.i .u64)).length=true:=by rw [List.length_map];exact Nat.ble_eq_true_of_le hk
  have ks:bQ (o.R.map (AV.i .u64)) k [.i .u64 x]=(o.R.set k x).map (AV.i .u64):=by rw [jg (by simpa using hk),List.map_set]
  have ib:(i*8+8).ble vs.length=true:=by rw [v1];exact Nat.ble_eq_true_of_le (by omega)
  have lR:∀ x:Int,(o.R.set k x).length=o.R.length:=fun x=>List.length_set
  (unfold Y9 KQ qmi;refine rl kb ks ib v3 (cj l0 (cj l1 (cj l2 (cj l3 (cj l4 (cj l5 (cj l6 (cj l7 (cj f0 (cj dn (cj dk (cj rR (cj @iN (cj @dd (cj @bR (cj @cI @bA)))))))))))))))) ?_)
  generalize hJ:AH.put _ (J.next+1) _=J3
  have n3:J3.next=J.next+10:=by rw [<-hJ];simp only [aO]
  have kR:J3.aa (J.next+2+1+1)=some (.cells true qj ((o.R.set k x).map (.i .u64))):=by rw [<-hJ];((try simp only [aO] at *);simp -implicitDefEqProofs (disch:=(first |omega |rfl |assumption |(simp only [aO];first |omega |assumption))) only [aH,aA,bA,au])
  have kL:J3.aa (J.next+2+1+2+3+1)=some (.cells true Dk (bQ vs (i*8) [.i .i64 (o.h.p:Int),.i .i64 (o.h.r:Int),.i .i64 (o.h.s:Int),.i .i64 (o.h.g:Int),.b o.h.l,.sl c o.P.length,.sl (.loc (.n (J.next+2+1+1)) 0 1) o.R.length,.i .u64 o.word])):=by rw [<-hJ];((try simp only [aO] at *);simp -implicitDefEqProofs (disch:=(first |omega |rfl |assumption |(simp only [aO];first |omega |assumption))) only [aH,aA,bA,au])
  have E3:Ext J J3:=by
   refine ⟨by omega,fun b hb=>?_⟩
   rw [<-hJ]
   ((try simp only [aO] at *);simp -implicitDefEqProofs (disch:=(first |omega |rfl |assumption |(simp only [aO];first |omega |assumption))) only [aH,aA,bA,au])
  clear hJ
  have R4:s.l.getD i ⟨⟨0,0,0,0,false⟩,[],[],0⟩=o:=by rw [List.getD_eq_getElem?_getD,hi];rfl
  have S5:Ow J3 (gl (o.R.set k x)) (.sl (.loc (.n (J.next+2+1+1)) 0 1) o.R.length) [J.next+2+1+1]:=by
   have:=Ow.leaves (J:=J3) (el:=qj) (es:=1) (n:=(o.R.set k x).length) (a:=.loc (.n (J.next+2+1+1)) 0 1) (xs:=(o.R.set k x).map (.i .u64)) (aY.new (by simp) kR (by omega)) (eI _)
   rw [<-dA] at this
   unfold gl
   rw [List.length_set] at this ⊢
   exact this
  have KR:dy J3 (OV.row {o with R:=o.R.set k x}) [.i .i64 (o.h.p:Int),.i .i64 (o.h.r:Int),.i .i64 (o.h.s:Int),.i .i64 (o.h.g:Int),.b o.h.l,.sl c o.P.length,.sl (.loc (.n (J.next+2+1+1)) 0 1) o.R.length,.i .u64 o.word] [J.next+2+1+1]:=by
   have h5:=dy.app (dy.im (J:=J3) (fF.EN (vs:=o.h.av) rfl)) (dy.cons (.im (ju hP)) (dy.cons S5 (dy.im (J:=J3) (fF.EN (vs:=[.i .u64 o.word]) rfl)) (by simp)) (by simp)) (by simp)
   simpa [OV.row,Hd.av] using h5
  have all:=tC v2 il KR
  have Y8:Ow J3 (.sl Dk 8 s.l.length ((s.l.set i {o with R:=o.R.set k x}).flatMap OV.row)) (.sl (.loc (.n (J.next+2+1+2+3+1)) 0 8) s.l.length) ([J.next+2+1+2+3+1]++[J.next+2+1+1]):=
   .sl (aY.new (by rw [kK (by rw [v1];show i*8+8<=_;omega),v1]) kL (by omega)).p all fun b hb hm=>by
    simp [SA.bk] at hb hm;omega
  refine U.2 ⟨_,rfl,E3,[]++(([J.next+2+1+2+3+1]++[J.next+2+1+1])++[]),?_,fun b hb=>?_⟩
  ·unfold gi.ts gi.fq
   rw [R4]
   simp only [List.length_set]
   exact (dy.im (fF.EN (vs:=[.i .i64 8,.i .i64 s.size,.i .i64 s.top,.i .i64 s.eu]) rfl)).app (.cons Y8 .nil (by simp)) (by simp)
  ·simp at hb;omega
 ·obtain ⟨a',rfl,g4⟩:=gi.un g2
  exact ⟨⟨a',g1,g4⟩,g3⟩
end Go.Abs.Tryz
namespace Go.Abs.Tryz
open Go Go.Abs
variable {O:Type}
def gi.kj (s:gi) (i k:Nat) (x:Int):gi:={s with l:=s.l.set i {(s.l.getD i ⟨⟨0,0,0,0,false⟩,[],[],0⟩) with P:=(s.l.getD i ⟨⟨0,0,0,0,false⟩,[],[],0⟩).P.set k x}}
theorem CQ {J:AH O} {a:SA} {s:gi} (ha:ss a s.l) (hn:s.l.length<=1000) {i:Nat} {o:OV} (hi:s.l[i]? = some o) (hP0:o.P.length<=1000) {k:Nat} (hk:k<o.P.length) (x:Int):
  Ok (UO [.agg (s.cells a),.i .i64 (i:Int),.i .i64 (k:Int),.i .u64 x] J) fun q=>(∃ a',q.1=.aB [.agg ((s.kj i k x).cells a'),.i .i64 0]/\ss a' (s.kj i k x).l)/\Ext J q.2:=by
 refine (gT (ts:=(s.kj i k x).ts) (s:=Za KQ) (rest:=[.i .i64 0]) (s.kj i k x).deep rfl ?_).mono fun q ⟨⟨vs,g1,g2⟩,g3⟩=>?_
 ·simp only [gi.cells]
  have il:=(List.getElem?_eq_some_iff.1 hi).1
  obtain ⟨b,oo,c,d,ea,hP,hR',vH⟩:=ha.obj hi
  obtain ⟨vs,v1,v2,v3⟩:=ha.all
  subst ea
  have ld:=fun J:AH O=>vH O J
  have l0:=fun J:AH O=>(ld J).1
  have l1:=fun J:AH O=>(ld J).2.1
  have l2:=fun J:AH O=>(ld J).2.2.1
  have l3:=fun J:AH O=>(ld J).2.2.2.1
  have l4:=fun J:AH O=>(ld J).2.2.2.2.1
  have l5:=fun J:AH O=>(ld J).2.2.2.2.2.1
  have l6:=fun J:AH O=>(ld J).2.2.2.2.2.2.1
  have l7:=fun J:AH O=>(ld J).2.2.2.2.2.2.2
  have rR:∀ J:AH O,J.bT c o.P.length 1=some (o.P.map (AV.i .u64)):=fun J=>(hP.Vw O J).bT
  have f0:(false == false)=true:=rfl
  have dn:decide ((k:Int)<0)=false:=decide_eq_false (by omega)
  have dk:decide ((k:Int)>=(o.P.length:Int))=false:=decide_eq_false (by omega)
  have kb:(k+1).ble (o.P.map (AV.i .u64)).length=true:=by rw [List.length_map];exact Nat.ble_eq_true_of_le hk
  have ks:bQ (o.P.map (AV.i .u64)) k [.i .u64 x]=(o.P.set k x).map (AV.i .u64):=by rw [jg (by simpa using hk),List.map_set]
  have ib:(i*8+8).ble vs.length=true:=by rw [v1];exact Nat.ble_eq_true_of_le (by omega)
  have lR:∀ x:Int,(o.P.set k x).length=o.P.length:=fun x=>List.length_set
  (unfold Za KQ qmi;refine rl kb ks ib v3 (cj l0 (cj l1 (cj l2 (cj l3 (cj l4 (cj l5 (cj l6 (cj l7 (cj f0 (cj dn (cj dk (cj rR (cj @iN (cj @dd (cj @bR (cj @cI @bA)))))))))))))))) ?_)
  generalize hJ:AH.put _ (J.next+1) _=J3
  have n3:J3.next=J.next+10:=by rw [<-hJ];simp only [aO]
  have kR:J3.aa (J.next+2+1+1)=some (.cells true qj ((o.P.set k x).map (.i .u64))):=by rw [<-hJ];((try simp only [aO] at *);simp -implicitDefEqProofs (disch:=(first |omega |rfl |assumption |(simp only [aO];first |omega |assumption))) only [aH,aA,bA,au])
  have kL:J3.aa (J.next+2+1+2+3+1)=some (.cells true Dk (bQ vs (i*8) [.i .i64 (o.h.p:Int),.i .i64 (o.h.r:Int),.i .i64 (o.h.s:Int),.i .i64 (o.h.g:Int),.b o.h.l,.sl (.loc (.n (J.next+2+1+1)) 0 1) o.P.length,.sl d o.R.length,.i .u64 o.word])):=by rw [<-hJ];((try simp only [aO] at *);simp -implicitDefEqProofs (disch:=(first |omega |rfl |assumption |(simp only [aO];first |omega |assumption))) only [aH,aA,bA,au])
  have E3:Ext J J3:=by
   refine ⟨by omega,fun b hb=>?_⟩
   rw [<-hJ]
   ((try simp only [aO] at *);simp -implicitDefEqProofs (disch:=(first |omega |rfl |assumption |(simp only [aO];first |omega |assumption))) only [aH,aA,bA,au])
  clear hJ
  have R4:s.l.getD i ⟨⟨0,0,0,0,false⟩,[],[],0⟩=o:=by rw [List.getD_eq_getElem?_getD,hi];rfl
  have S5:Ow J3 (gl (o.P.set k x)) (.sl (.loc (.n (J.next+2+1+1)) 0 1) o.P.length) [J.next+2+1+1]:=by
   have:=Ow.leaves (J:=J3) (el:=qj) (es:=1) (n:=(o.P.set k x).length) (a:=.loc (.n (J.next+2+1+1)) 0 1) (xs:=(o.P.set k x).map (.i .u64)) (aY.new (by simp) kR (by omega)) (eI _)
   rw [<-dA] at this
   unfold gl
   rw [List.length_set] at this ⊢
   exact this
  have KR:dy J3 (OV.row {o with P:=o.P.set k x}) [.i .i64 (o.h.p:Int),.i .i64 (o.h.r:Int),.i .i64 (o.h.s:Int),.i .i64 (o.h.g:Int),.b o.h.l,.sl (.loc (.n (J.next+2+1+1)) 0 1) o.P.length,.sl d o.R.length,.i .u64 o.word] [J.next+2+1+1]:=by
   have h5:=dy.app (dy.im (J:=J3) (fF.EN (vs:=o.h.av) rfl)) (dy.cons S5 (dy.cons (.im (ju hR')) (dy.im (J:=J3) (fF.EN (vs:=[.i .u64 o.word]) rfl)) (by simp)) (by simp)) (by simp)
   simpa [OV.row,Hd.av] using h5
  have all:=tC v2 il KR
  have Y8:Ow J3 (.sl Dk 8 s.l.length ((s.l.set i {o with P:=o.P.set k x}).flatMap OV.row)) (.sl (.loc (.n (J.next+2+1+2+3+1)) 0 8) s.l.length) ([J.next+2+1+2+3+1]++[J.next+2+1+1]):=
   .sl (aY.new (by rw [kK (by rw [v1];show i*8+8<=_;omega),v1]) kL (by omega)).p all fun b hb hm=>by
    simp [SA.bk] at hb hm;omega
  refine U.2 ⟨_,rfl,E3,[]++(([J.next+2+1+2+3+1]++[J.next+2+1+1])++[]),?_,fun b hb=>?_⟩
  ·unfold gi.ts gi.kj
   rw [R4]
   simp only [List.length_set]
   exact (dy.im (fF.EN (vs:=[.i .i64 8,.i .i64 s.size,.i .i64 s.top,.i .i64 s.eu]) rfl)).app (.cons Y8 .nil (by simp)) (by simp)
  ·simp at hb;omega
 ·obtain ⟨a',rfl,g4⟩:=gi.un g2
  exact ⟨⟨a',g1,g4⟩,g3⟩
end Go.Abs.Tryz
