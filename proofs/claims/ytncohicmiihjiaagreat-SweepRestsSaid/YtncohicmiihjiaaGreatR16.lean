/-
  The document of layer 16 (store): objects as plain data; what is made. No conditions.
-/
import Derived.Test.YtncohicmiihjiaaGreatM20
import Derived.Test.YtncohicmiihjiaaGreatN1
import Derived.Test.YtncohicmiihjiaaGreatS9s
set_option linter.unusedVariables false
set_option linter.unusedSimpArgs false
set_option linter.constructorNameAsVariable false
set_option linter.unusedSimpArgs false
set_option linter.unusedVariables false
set_option linter.unusedSectionVars false
set_option maxHeartbeats 4000000
namespace Go.Abs.Tryz
open Go Go.Abs
variable {O:Type}
theorem OY {J:AH O} {b nid el es m:Nat} {new:List AV} (h:J.aa b=some (.cells true el [])):J.cL nid el es (.loc (.n b) 0 es) 0 m new=some (.sl (.loc (.n nid) 0 es) m,(J.kill b).put nid (.cells true el new)):=by
 simp only [AH.cL,h]
 simp
 rfl
theorem iL {J:AH O} {b nid el es m:Nat} {new:List AV}:(J.put b (.cells true el [])).cL nid el es (.loc (.n b) 0 es) 0 m new=some (.sl (.loc (.n nid) 0 es) m,((J.put b (.cells true el [])).kill b).put nid (.cells true el new)):=OY aE
theorem Ua (k:IntKind) (n:Nat):(List.replicate n [AV.i k 0]).flatten=(List.replicate n (0:Int)).map (AV.i k):=by
 induction n with
 |zero=>rfl
 |succ n ih=>simp only [List.replicate_succ,List.flatten_cons,List.map_cons,ih];rfl
structure OV where
 h:Hd
 P:List Int
 R:List Int
 word:Int
def gn (l:List Int):TV:=.sl pW 1 l.length (l.flatMap (nB .u64))
theorem qb {l:List Int} {v:AV} (h:Im (gn l) v):∃ a,v=.sl a l.length/\eZ .u64 a l:=Row.of (km .u64) h rfl
theorem jm {l:List Int} {a:SA} (h:eZ .u64 a l):Im (gn l) (.sl a l.length):=h.im _
def OV.row (x:OV):List TV:=x.h.av.map TV.lf++[gn x.P,gn x.R,.lf (.i .u64 x.word)]
theorem OV.len (x:OV):x.row.length=8:=rfl
def OV.cells (x:OV) (a b:SA):List AV:=[.i .i64 (x.h.p:Int),.i .i64 (x.h.r:Int),.i .i64 (x.h.s:Int),.i .i64 (x.h.g:Int),.b x.h.l,.sl a x.P.length,.sl b x.R.length,.i .u64 x.word]
theorem OV.un {x:OV} {us:List AV} (h:fy x.row us):∃ a b,us=x.cells a b/\eZ .u64 a x.P/\eZ .u64 b x.R:=by
 unfold OV.row Hd.av at h
 cases h with
 |cons h0 h=>cases h with
 |cons h1 h=>cases h with
 |cons h2 h=>cases h with
 |cons h3 h=>cases h with
 |cons h4 h=>cases h with
 |cons h5 h=>cases h with
 |cons h6 h=>cases h with
 |cons h7 h=>cases h with
 |nil=>
  obtain ⟨a,rfl,ia⟩:=qb h5
  obtain ⟨b,rfl,ib⟩:=qb h6
  rw [h0.leaf,h1.leaf,h2.leaf,h3.leaf,h4.leaf,h7.leaf]
  exact ⟨a,b,rfl,ia,ib⟩
theorem OV.K0 {x:OV} {a b:SA} (ha:eZ .u64 a x.P) (hb:eZ .u64 b x.R):fy x.row (x.cells a b):=
 .cons (.lf rfl) (.cons (.lf rfl) (.cons (.lf rfl) (.cons (.lf rfl) (.cons (.lf rfl) (.cons (jm ha) (.cons (jm hb) (.cons (.lf rfl) .nil)))))))
theorem OV.deep (x:OV):∀ t∈x.row,t.deep 4:=by
 intro t ht
 simp only [OV.row,Hd.av,List.map_cons,List.map_nil,List.cons_append,List.nil_append,List.mem_cons,List.not_mem_nil,or_false] at ht
 have hint:∀ (l:List Int),∀ t∈l.flatMap (nB .u64),t.deep 3:=fun l t ht=>by
  obtain ⟨n,_,hn⟩:=List.mem_flatMap.1 ht
  simp only [nB,List.mem_singleton] at hn
  subst hn;exact trivial
 rcases ht with rfl |rfl |rfl |rfl |rfl |rfl |rfl |rfl
 ·exact trivial
 ·exact trivial
 ·exact trivial
 ·exact trivial
 ·exact trivial
 ·exact hint _
 ·exact hint _
 ·exact trivial
abbrev rX (a:SA) (l:List OV):Prop:=Row OV.row 8 a l
theorem rX.obj {a:SA} {D:List OV} (h:rX a D) {i:Nat} {x:OV} (hx:D[i]? = some x):∃ b o c d,a=.loc b o 8/\eZ .u64 c x.P/\eZ .u64 d x.R/\∀ (O:Type) (J:AH O),
  J.ld b (o+i*8)=some (.i .i64 (x.h.p:Int))/\J.ld b (o+i*8+1)=some (.i .i64 (x.h.r:Int))/\J.ld b (o+i*8+2)=some (.i .i64 (x.h.s:Int))/\J.ld b (o+i*8+3)=some (.i .i64 (x.h.g:Int))/\J.ld b (o+i*8+4)=some (.b x.h.l)/\J.ld b (o+i*8+5)=some (.sl c x.P.length)/\J.ld b (o+i*8+6)=some (.sl d x.R.length)/\J.ld b (o+i*8+7)=some (.i .u64 x.word):=by
 obtain ⟨b,o,us,e,h1,h2⟩:=h.get hx
 obtain ⟨c,d,rfl,hc,hd⟩:=OV.un h1
 refine ⟨b,o,c,d,e,hc,hd,fun O J=>⟨?_,?_,?_,?_,?_,?_,?_,?_⟩⟩
 ·exact h2 O J 0 (by decide)
 ·exact h2 O J 1 (by decide)
 ·exact h2 O J 2 (by decide)
 ·exact h2 O J 3 (by decide)
 ·exact h2 O J 4 (by decide)
 ·exact h2 O J 5 (by decide)
 ·exact h2 O J 6 (by decide)
 ·exact h2 O J 7 (by decide)
theorem Dz (J:AH O) {h:Hd} (k:h.ok):Ok (Ub [.agg [.i .i64 (h.p:Int),.i .i64 (h.r:Int),.i .i64 (h.s:Int),.i .i64 (h.g:Int),.b h.l]] J) fun q=>q.1=.i .i64 0/\Ext J q.2:=by
 have f0:(false == false)=true:=rfl
 have h1:=k.p;have h2:=k.r;have h3:=k.s;have h4:=k.g
 have d1:decide ((h.p:Int)<0)=false:=decide_eq_false (by omega)
 have d2:decide ((h.p:Int) > 4095)=false:=decide_eq_false (by omega)
 have d3:decide ((h.r:Int)<0)=false:=decide_eq_false (by omega)
 have d4:decide ((h.r:Int) > 4095)=false:=decide_eq_false (by omega)
 have d5:decide ((h.s:Int)<0)=false:=decide_eq_false (by omega)
 have d6:decide ((h.s:Int) > 31)=false:=decide_eq_false (by omega)
 have d7:decide ((h.g:Int)<0)=false:=decide_eq_false (by omega)
 have d8:decide ((h.g:Int) > 7)=false:=decide_eq_false (by omega)
 (unfold Ub qkn;refine oQ d1 d2 d3 d4 (cj d5 (cj d6 (cj d7 (cj d8 f0)))) ?_)
 exact U.2 ⟨rfl,ku⟩
theorem Bp (J:AH O) {p r:Nat} (h1:p<4096) (h2:r<4096):Ok (Uc [.agg [.i .i64 (p:Int),.i .i64 (r:Int)]] J) fun q=>q.1=.i .i64 ((1+p+r:Nat):Int)/\Ext J q.2:=by
 have t0:(true == true)=true:=rfl
 have d1:decide ((p:Int)>=0)=true:=decide_eq_true (by omega)
 have d2:decide ((p:Int)<4096)=true:=decide_eq_true (by omega)
 have d3:decide ((r:Int)>=0)=true:=decide_eq_true (by omega)
 have d4:decide ((r:Int)<4096)=true:=decide_eq_true (by omega)
 (unfold Uc qki qke qkd;refine oQ d1 d2 d3 d4 t0 ?_)
 exact U.2 ⟨by show AV.i _ _=AV.i _ _;congr 1<;>omega,ku⟩
structure gi where
 size:Int
 top:Int
 dW:Int
 l:List OV
def gi.ts (s:gi):List TV:=[.lf (.i .i64 8),.lf (.i .i64 s.size),.lf (.i .i64 s.top),.lf (.i .i64 s.dW),.sl DA 8 s.l.length (s.l.flatMap OV.row)]
def gi.cells (s:gi) (a:SA):List AV:=[.i .i64 8,.i .i64 s.size,.i .i64 s.top,.i .i64 s.dW,.sl a s.l.length]
theorem gi.un {s:gi} {us:List AV} (h:fy s.ts us):∃ a,us=s.cells a/\rX a s.l:=by
 unfold gi.ts at h
 cases h with
 |cons h0 h=>cases h with
 |cons h1 h=>cases h with
 |cons h2 h=>cases h with
 |cons h3 h=>cases h with
 |cons h4 h=>cases h with
 |nil=>
  obtain ⟨a,rfl,ia⟩:=Row.of OV.len h4 rfl
  rw [h0.leaf,h1.leaf,h2.leaf,h3.leaf]
  exact ⟨a,rfl,ia⟩
theorem gi.deep (s:gi):∀ t∈s.ts,t.deep 5:=by
 intro t ht
 simp only [gi.ts,List.mem_cons,List.not_mem_nil,or_false] at ht
 rcases ht with rfl |rfl |rfl |rfl |rfl
 ·exact trivial
 ·exact trivial
 ·exact trivial
 ·exact trivial
 ·intro t ht
  obtain ⟨x,_,hx⟩:=List.mem_flatMap.1 ht
  exact x.deep t hx
def pJ (p r st:Nat) (l:Bool) (w:Int):OV:=⟨⟨p,r,st,0,l⟩,List.replicate p 0,List.replicate r 0,w⟩
def gi.word (s:gi) (p r:Nat):Int:=if 8<1+p+r then 2*(s.dW+1) else 2*s.top+1
def gi.made (s:gi) (p r st:Nat):gi:=if 8<1+p+r then {s with dW:=s.dW+1,l:=s.l++[pJ p r st true (s.word p r)]} else {s with top:=s.top+(1+p+r:Nat),l:=s.l++[pJ p r st false (s.word p r)]}
theorem K3 {J:AH O} {x:OV} {c d:Nat} (hc:J.aa c=some (.cells true pW (x.P.map (.i .u64)))) (hd:J.aa d=some (.cells true pW (x.R.map (.i .u64)))) (h1:c<J.next) (h2:d<J.next) (h3:c≠d):dx J x.row (x.cells (.loc (.n c) 0 1) (.loc (.n d) 0 1)) ([c]++[d]):=by
 have op:Ow J (gn x.P) (.sl (.loc (.n c) 0 1) x.P.length) [c]:=by
  have:=Ow.leaves (J:=J) (el:=pW) (es:=1) (n:=x.P.length) (a:=.loc (.n c) 0 1) (xs:=x.P.map (.i .u64)) (ba.new (by simp) hc h1) (eE _)
  rw [<-dz] at this;exact this
 have Ud:Ow J (gn x.R) (.sl (.loc (.n d) 0 1) x.R.length) [d]:=by
  have:=Ow.leaves (J:=J) (el:=pW) (es:=1) (n:=x.R.length) (a:=.loc (.n d) 0 1) (xs:=x.R.map (.i .u64)) (ba.new (by simp) hd h2) (eE _)
  rw [<-dz] at this;exact this
 have h5:=dx.app (dx.im (J:=J) (fy.EX (vs:=x.h.av) rfl)) (dx.cons op (dx.cons Ud (dx.im (J:=J) (fy.EX (vs:=[.i .u64 x.word]) rfl)) (by simp)) (by simpa using h3)) (by simp)
 simpa [OV.row,OV.cells,Hd.av] using h5
end Go.Abs.Tryz
namespace Go.Abs.Tryz
open Go Go.Abs
variable {O:Type}
theorem Jo {J:AH O} {a:SA} {s:gi} (ha:rX a s.l) (hn:s.l.length<=1000) {p r st:Nat} (hp:p<=15) (hr:r<=15) (hs:st<32) (ht:0<=s.top/\s.top<=100000) (hg:0<=s.dW/\s.dW<=100000) (jM:s.size<=100000) (Ap:1+p+r<=8->((1+p+r:Nat):Int)<=s.size - s.top):
  Ok (XU [.agg (s.cells a),.agg [.i .i64 (p:Int),.i .i64 (r:Int)],.i .i64 (st:Int)] J) fun q=>(∃ a',q.1=.aG [.agg ((s.made p r st).cells a'),.i .u64 (s.word p r),.i .i64 0]/\rX a' (s.made p r st).l)/\Ext J q.2:=by
 refine (gP (ts:=(s.made p r st).ts) (s:=ZJ Uc Ub) (rest:=[.i .u64 (s.word p r),.i .i64 0]) (s.made p r st).deep rfl ?_).mono fun q ⟨⟨vs,g1,g2⟩,g3⟩=>?_
 ·simp only [gi.cells]
  (unfold ZJ;refine cd ?_)
  refine Ok.step (Bp _ (p:=p) (r:=r) (by omega) (by omega)) fun q ⟨g1,g2⟩=>?_
  obtain ⟨q,J1⟩:=q
  simp only at g1 g2
  subst g1
  have nx:=g2.next
  simp only [aN] at nx
  have b0:J1.aa J.next=some (.cells true 105 [.i .i64 8,.i .i64 s.size,.i .i64 s.top,.i .i64 s.dW,.sl a s.l.length]):=(g2.aa _ (by simp)).trans (by exact iZ)
  have b1:J1.aa (J.next+1)=some (.cells true 37 [.i .i64 (p:Int),.i .i64 (r:Int)]):=(g2.aa _ (by simp)).trans (by exact iZ)
  have b2:J1.aa (J.next+1+1)=some (.cells true 105 [.i .i64 0,.i .i64 0,.i .i64 0,.i .i64 0,.sl .nil 0]):=(g2.aa _ (by simp)).trans (by exact iZ)
  obtain ⟨vs,v1,v2,v3⟩:=ha.all
  have z0:((0:Int) != 0)=false:=rfl
  refine gg b0 b1 ?_
  have ck:=fun (J:AH O) (l:Bool)=>Dz J (h:=⟨p,r,st,0,l⟩) ⟨by simp only;omega,by simp only;omega,hs,by show 0<8;omega⟩
  refine Ok.step (ck _ _) fun q ⟨g3,g4⟩=>?_
  obtain ⟨q,J2⟩:=q
  simp only at g3 g4
  subst g3
  have nx2:=g4.next
  simp only [aN] at nx2
  have E2:Ext J1 J2:=by
   exact ⟨by omega,fun b hb=>(g4.aa b (by simp;omega)).trans (by exact iZ)⟩
  have c0:=(E2.aa J.next (by omega)).trans b0
  have c1:=(E2.aa (J.next+1) (by omega)).trans b1
  have c2:=(E2.aa (J.next+1+1) (by omega)).trans b2
  have eml:(s.made p r st).l=s.l++[pJ p r st (decide (8<1+p+r)) (s.word p r)]:=by
   unfold gi.made;split
   ·next h=>rw [decide_eq_true h]
   ·next h=>rw [decide_eq_false h]
  have emz:(s.made p r st).size=s.size:=by unfold gi.made;split<;>rfl
  have c3:J2.aa J1.next=some (.cells true 39 [.i .i64 (p:Int),.i .i64 (r:Int),.i .i64 (st:Int),.i .i64 0,.b (decide (((1+p+r:Nat):Int) > 8))]):=(g4.aa _ (by simp)).trans (by exact iZ)
  clear g4
  by_cases hb:8<1+p+r
  case' pos=>
   have d0:decide (((1+p+r:Nat):Int) > 8)=true:=decide_eq_true (by omega)
   have dl:decide (8<1+p+r)=true:=decide_eq_true hb
   have ew:s.word p r=2*(s.dW+1):=by unfold gi.word;rw [if_pos hb]
   have et:(s.made p r st).top=s.top:=by unfold gi.made;rw [if_pos hb]
   have el:(s.made p r st).dW=s.dW+1:=by unfold gi.made;rw [if_pos hb]
   rw [d0] at c3
   refine oQ z0 c0 c1 c2 (cj c3 (cj v3 (cj @iL (cj @cU (cj @bO (cj @cB @bd)))))) ?_
  case' neg=>
   have d0:decide (((1+p+r:Nat):Int) > 8)=false:=decide_eq_false (by omega)
   have dl:decide (8<1+p+r)=false:=decide_eq_false hb
   have ew:s.word p r=2*s.top+1:=by unfold gi.word;rw [if_neg hb]
   have et:(s.made p r st).top=s.top+((1+p+r:Nat):Int):=by unfold gi.made;rw [if_neg hb]
   have el:(s.made p r st).dW=s.dW:=by unfold gi.made;rw [if_neg hb]
   have d1:decide (((1+p+r:Nat):Int) > s.size - s.top)=false:=decide_eq_false (by have:=Ap (by omega);omega)
   rw [d0] at c3
   refine oQ z0 c0 c1 c2 (cj c3 (cj d1 (cj v3 (cj @iL (cj @cU (cj @bO (cj @cB @bd))))))) ?_
  all_goals
   generalize hJ:AH.put _ (J2.next+3+1+1) _=J3
   have n3:J3.next=J2.next+7:=by rw [<-hJ];simp only [aN]
   have k0:J3.aa J.next=some (.cells true 105 [.i .i64 8,.i .i64 s.size,.i .i64 (s.made p r st).top,.i .i64 (s.made p r st).dW,.sl a s.l.length]):=by rw [<-hJ,et,el];((try simp only [aN] at *);simp -implicitDefEqProofs (disch:=(first |omega |rfl |assumption |(simp only [aN];first |omega |assumption))) only [aE,aq,bd,ak])
   have k2:J3.aa (J.next+1+1)=some (.cells true 105 [.i .i64 0,.i .i64 0,.i .i64 0,.i .i64 0,.sl .nil 0]):=by rw [<-hJ];((try simp only [aN] at *);simp -implicitDefEqProofs (disch:=(first |omega |rfl |assumption |(simp only [aN];first |omega |assumption))) only [aE,aq,bd,ak]);exact c2
   have k5:J3.aa (J2.next+1+1)=some (.cells true 42 [.i .i64 (p:Int),.i .i64 (r:Int),.i .i64 (st:Int),.i .i64 0,.b (decide (8<1+p+r)),.sl (.loc (.n J2.next) 0 1) p,.sl (.loc (.n (J2.next+1)) 0 1) r,.i .u64 (s.word p r)]):=by rw [<-hJ,ew,dl];((try simp only [aN] at *);simp -implicitDefEqProofs (disch:=(first |omega |rfl |assumption |(simp only [aN];first |omega |assumption))) only [aE,aq,bd,ak])
   have kP:J3.aa J2.next=some (.cells true 33 ((List.replicate p (0:Int)).map (.i .u64))):=by rw [<-hJ,<-Ua];((try simp only [aN] at *);simp -implicitDefEqProofs (disch:=(first |omega |rfl |assumption |(simp only [aN];first |omega |assumption))) only [aE,aq,bd,ak])
   have kR:J3.aa (J2.next+1)=some (.cells true 33 ((List.replicate r (0:Int)).map (.i .u64))):=by rw [<-hJ,<-Ua];((try simp only [aN] at *);simp -implicitDefEqProofs (disch:=(first |omega |rfl |assumption |(simp only [aN];first |omega |assumption))) only [aE,aq,bd,ak])
   have kL:J3.aa (J2.next+3+1)=some (.cells true 42 vs):=by rw [<-hJ];((try simp only [aN] at *);simp -implicitDefEqProofs (disch:=(first |omega |rfl |assumption |(simp only [aN];first |omega |assumption))) only [aE,aq,bd,ak])
   have E3:Ext J J3:=by
    refine ⟨by omega,fun b hb=>?_⟩
    rw [<-hJ]
    ((try simp only [aN] at *);simp -implicitDefEqProofs (disch:=(first |omega |rfl |assumption |(simp only [aN];first |omega |assumption))) only [aE,aq,bd,ak])
    rw [E2.aa b (by omega),g2.aa b (by simp;omega)]
    exact iZ
   clear hJ c0 c1 c2 c3 b0 b1 b2
   refine Ok.step (ja (nid:=J2.next+3+1+1+1) (ba.new (J:=J3) (n:=s.l.length) (es:=8) v1 kL (by omega)) (by simp [SA.bk]) (by omega) (m:=1) (new:=[AV.i .i64 _,.i .i64 _,.i .i64 _,.i .i64 _,.b _,.sl _ _,.sl _ _,.i .u64 _]) rfl) fun q ⟨a',q1,q2,q3,q4,q5⟩=>?_
   obtain ⟨q,J4⟩:=q
   simp only at q1 q2 q3 q4
   subst q1
   have GX:∀ b,b≠J2.next+6->b≠J2.next+4->J4.aa b=J3.aa b:=fun b h1 h2=>q4 b (by omega) (by simp only [SA.bk,List.mem_singleton];omega)
   have m0:=(GX J.next (by omega) (by omega)).trans k0
   have m2:=(GX (J.next+1+1) (by omega) (by omega)).trans k2
   have m5:=(GX (J2.next+1+1) (by omega) (by omega)).trans k5
   have mP:=(GX J2.next (by omega) (by omega)).trans kP
   have mR:=(GX (J2.next+1) (by omega) (by omega)).trans kR
   have E4:Ext J J4:=⟨by have:=E3.next;omega,fun b hb=>(GX b (by omega) (by omega)).trans (E3.aa b hb)⟩
   refine jN m0 m2 m5 ?_
   have own:=K3 (J:=J4) (x:=pJ p r st (decide (8<1+p+r)) (s.word p r)) (c:=J2.next) (d:=J2.next+1) mP mR (by omega) (by omega) (by omega)
   have all:dx J4 ((s.l++[pJ p r st (decide (8<1+p+r)) (s.word p r)]).flatMap OV.row) (vs++[AV.i .i64 (p:Int),.i .i64 (r:Int),.i .i64 (st:Int),.i .i64 0,.b (decide (8<1+p+r)),.sl (.loc (.n J2.next) 0 1) p,.sl (.loc (.n (J2.next+1)) 0 1) r,.i .u64 (s.word p r)]) ([]++([J2.next]++[J2.next+1])):=by
    rw [List.flatMap_append]
    refine dx.app (dx.im v2) ?_ (by simp)
    simpa [OV.cells,pJ] using own
   have ZK:Ow J4 (.sl DA 8 (s.l.length+1) ((s.l++[pJ p r st (decide (8<1+p+r)) (s.word p r)]).flatMap OV.row)) (.sl a' (s.l.length+1)) (SA.bk a'++([]++([J2.next]++[J2.next+1]))):=by
    rw [dl,ew] at all ⊢
    exact .sl q2.p all fun b hb hm=>by
     have:=q5 b hb
     simp at hm
     omega
   refine U.2 ⟨_,rfl,?_,SA.bk a'++([]++([J2.next]++[J2.next+1])),?_,fun b hb=>?_⟩
   ·refine ⟨by simp only [aN];have:=E4.next;omega,fun b hb=>?_⟩
    ((try simp only [aN] at *);simp -implicitDefEqProofs (disch:=(first |omega |rfl |assumption |(simp only [aN];first |omega |assumption))) only [aE,aq,bd,ak])
    exact E4.aa b hb
   ·have o1:dx J4 (s.made p r st).ts [.i .i64 8,.i .i64 s.size,.i .i64 (s.made p r st).top,.i .i64 (s.made p r st).dW,.sl a' (s.l.length+1)] ([]++((SA.bk a'++([]++([J2.next]++[J2.next+1])))++[])):=by
     unfold gi.ts
     rw [eml,emz,List.length_append]
     exact (dx.im (fy.EX (vs:=[.i .i64 8,.i .i64 s.size,.i .i64 (s.made p r st).top,.i .i64 (s.made p r st).dW]) rfl)).app (.cons ZK .nil (by simp)) (by simp)
    rw [List.nil_append,List.append_nil] at o1
    refine o1.of (by simp only [aN];omega) fun b hb=>?_
    have dJ:b=J2.next+6 ∨ b=J2.next ∨ b=J2.next+1:=by
     rcases List.mem_append.1 hb with hb |hb
     ·have:=q5 b hb;omega
     ·simp at hb;omega
    ((try simp only [aN] at *);simp -implicitDefEqProofs (disch:=(first |omega |rfl |assumption |(simp only [aN];first |omega |assumption))) only [aE,aq,bd,ak])
   ·rcases List.mem_append.1 hb with hb |hb
    ·have:=q5 b hb;omega
    ·simp at hb;omega
 ·obtain ⟨a',rfl,g4⟩:=gi.un g2
  exact ⟨⟨a',g1,g4⟩,g3⟩
end Go.Abs.Tryz
namespace Go.Abs.Tryz
open Go Go.Abs
variable {O:Type}
theorem tv {J:AH O} {l:List OV} {vs u:List AV} {k:Nat} {x:OV} {L:List Nat} (h:fy (l.flatMap OV.row) vs) (hk:k<l.length) (hu:dx J x.row u L):dx J ((l.set k x).flatMap OV.row) (bF vs (k*8) u) L:=by
 have lu:u.length=8:=hu.len
 have h1:=h.take (k*8)
 have h2:=h.drop ((k+1)*8)
 rw [<-nm OV.len] at h1
 rw [<-rC OV.len] at h2
 rw [List.set_eq_take_append_cons_drop,if_pos hk,List.flatMap_append,List.flatMap_cons]
 unfold bF
 rw [List.append_assoc,lu,show k*8+8=(k+1)*8 by omega]
 have:=(dx.im (J:=J) h1).app (hu.app (dx.im (J:=J) h2) (by simp)) (by simp)
 simpa using this
def gi.fh (s:gi) (i k:Nat) (x:Int):gi:={s with l:=s.l.set i {(s.l.getD i ⟨⟨0,0,0,0,false⟩,[],[],0⟩) with R:=(s.l.getD i ⟨⟨0,0,0,0,false⟩,[],[],0⟩).R.set k x}}
theorem C9 {J:AH O} {a:SA} {s:gi} (ha:rX a s.l) (hn:s.l.length<=1000) {i:Nat} {o:OV} (hi:s.l[i]? = some o) (hR:o.R.length<=1000) {k:Nat} (hk:k<o.R.length) (x:Int):
  Ok (SV [.agg (s.cells a),.i .i64 (i:Int),.i .i64 (k:Int),.i .u64 x] J) fun q=>(∃ a',q.1=.aG [.agg ((s.fh i k x).cells a'),.i .i64 0]/\rX a' (s.fh i k x).l)/\Ext J q.2:=by
 refine (gP (ts:=(s.fh i k x).ts) (s:=ZL K5) (rest:=[.i .i64 0]) (s.fh i k x).deep rfl ?_).mono fun q ⟨⟨vs,g1,g2⟩,g3⟩=>?_
 ·simp only [gi.cells]
  have il:=(List.getElem?_eq_some_iff.1 hi).1
  obtain ⟨b,oo,c,d,ea,hP,hR',vM⟩:=ha.obj hi
  obtain ⟨vs,v1,v2,v3⟩:=ha.all
  subst ea
  have ld:=fun J:AH O=>vM O J
  have l0:=fun J:AH O=>(ld J).1
  have l1:=fun J:AH O=>(ld J).2.1
  have l2:=fun J:AH O=>(ld J).2.2.1
  have l3:=fun J:AH O=>(ld J).2.2.2.1
  have l4:=fun J:AH O=>(ld J).2.2.2.2.1
  have l5:=fun J:AH O=>(ld J).2.2.2.2.2.1
  have l6:=fun J:AH O=>(ld J).2.2.2.2.2.2.1
  have l7:=fun J:AH O=>(ld J).2.2.2.2.2.2.2
  have rR:∀ J:AH O,J.bU d o.R.length 1=some (o.R.map (AV.i .u64)):=fun J=>(hR'.Wl O J).bU
  have f0:(false == false)=true:=rfl
  have dn:decide ((k:Int)<0)=false:=decide_eq_false (by omega)
  have dk:decide ((k:Int)>=(o.R.length:Int))=false:=decide_eq_false (by omega)
  have kb:(k+1).ble (o.R.map (AV.i .u64)).length=true:=by rw [List.length_map];exact Nat.ble_eq_true_of_le hk
  have ks:bF (o.R.map (AV.i .u64)) k [.i .u64 x]=(o.R.set k x).map (AV.i .u64):=by rw [jb (by simpa using hk),List.map_set]
  have ib:(i*8+8).ble vs.length=true:=by rw [v1];exact Nat.ble_eq_true_of_le (by omega)
  have lR:∀ x:Int,(o.R.set k x).length=o.R.length:=fun x=>List.length_set
  (unfold ZL K5 qmh;refine oQ kb ks ib v3 (cj l0 (cj l1 (cj l2 (cj l3 (cj l4 (cj l5 (cj l6 (cj l7 (cj f0 (cj dn (cj dk (cj rR (cj @iL (cj @cU (cj @bO (cj @cB @bd)))))))))))))))) ?_)
  generalize hJ:AH.put _ (J.next+1) _=J3
  have n3:J3.next=J.next+10:=by rw [<-hJ];simp only [aN]
  have kR:J3.aa (J.next+2+1+1)=some (.cells true pW ((o.R.set k x).map (.i .u64))):=by rw [<-hJ];((try simp only [aN] at *);simp -implicitDefEqProofs (disch:=(first |omega |rfl |assumption |(simp only [aN];first |omega |assumption))) only [aE,aq,bd,ak])
  have kL:J3.aa (J.next+2+1+2+3+1)=some (.cells true DA (bF vs (i*8) [.i .i64 (o.h.p:Int),.i .i64 (o.h.r:Int),.i .i64 (o.h.s:Int),.i .i64 (o.h.g:Int),.b o.h.l,.sl c o.P.length,.sl (.loc (.n (J.next+2+1+1)) 0 1) o.R.length,.i .u64 o.word])):=by rw [<-hJ];((try simp only [aN] at *);simp -implicitDefEqProofs (disch:=(first |omega |rfl |assumption |(simp only [aN];first |omega |assumption))) only [aE,aq,bd,ak])
  have E3:Ext J J3:=by
   refine ⟨by omega,fun b hb=>?_⟩
   rw [<-hJ]
   ((try simp only [aN] at *);simp -implicitDefEqProofs (disch:=(first |omega |rfl |assumption |(simp only [aN];first |omega |assumption))) only [aE,aq,bd,ak])
  clear hJ
  have SX:s.l.getD i ⟨⟨0,0,0,0,false⟩,[],[],0⟩=o:=by rw [List.getD_eq_getElem?_getD,hi];rfl
  have Ud:Ow J3 (gn (o.R.set k x)) (.sl (.loc (.n (J.next+2+1+1)) 0 1) o.R.length) [J.next+2+1+1]:=by
   have:=Ow.leaves (J:=J3) (el:=pW) (es:=1) (n:=(o.R.set k x).length) (a:=.loc (.n (J.next+2+1+1)) 0 1) (xs:=(o.R.set k x).map (.i .u64)) (ba.new (by simp) kR (by omega)) (eE _)
   rw [<-dz] at this
   unfold gn
   rw [List.length_set] at this ⊢
   exact this
  have K6:dx J3 (OV.row {o with R:=o.R.set k x}) [.i .i64 (o.h.p:Int),.i .i64 (o.h.r:Int),.i .i64 (o.h.s:Int),.i .i64 (o.h.g:Int),.b o.h.l,.sl c o.P.length,.sl (.loc (.n (J.next+2+1+1)) 0 1) o.R.length,.i .u64 o.word] [J.next+2+1+1]:=by
   have h5:=dx.app (dx.im (J:=J3) (fy.EX (vs:=o.h.av) rfl)) (dx.cons (.im (jm hP)) (dx.cons Ud (dx.im (J:=J3) (fy.EX (vs:=[.i .u64 o.word]) rfl)) (by simp)) (by simp)) (by simp)
   simpa [OV.row,Hd.av] using h5
  have all:=tv v2 il K6
  have ZK:Ow J3 (.sl DA 8 s.l.length ((s.l.set i {o with R:=o.R.set k x}).flatMap OV.row)) (.sl (.loc (.n (J.next+2+1+2+3+1)) 0 8) s.l.length) ([J.next+2+1+2+3+1]++[J.next+2+1+1]):=
   .sl (ba.new (by rw [kJ (by rw [v1];show i*8+8<=_;omega),v1]) kL (by omega)).p all fun b hb hm=>by
    simp [SA.bk] at hb hm;omega
  refine U.2 ⟨_,rfl,E3,[]++(([J.next+2+1+2+3+1]++[J.next+2+1+1])++[]),?_,fun b hb=>?_⟩
  ·unfold gi.ts gi.fh
   rw [SX]
   simp only [List.length_set]
   exact (dx.im (fy.EX (vs:=[.i .i64 8,.i .i64 s.size,.i .i64 s.top,.i .i64 s.dW]) rfl)).app (.cons ZK .nil (by simp)) (by simp)
  ·simp at hb;omega
 ·obtain ⟨a',rfl,g4⟩:=gi.un g2
  exact ⟨⟨a',g1,g4⟩,g3⟩
end Go.Abs.Tryz
namespace Go.Abs.Tryz
open Go Go.Abs
variable {O:Type}
def gi.ke (s:gi) (i k:Nat) (x:Int):gi:={s with l:=s.l.set i {(s.l.getD i ⟨⟨0,0,0,0,false⟩,[],[],0⟩) with P:=(s.l.getD i ⟨⟨0,0,0,0,false⟩,[],[],0⟩).P.set k x}}
theorem Df {J:AH O} {a:SA} {s:gi} (ha:rX a s.l) (hn:s.l.length<=1000) {i:Nat} {o:OV} (hi:s.l[i]? = some o) (hP0:o.P.length<=1000) {k:Nat} (hk:k<o.P.length) (x:Int):
  Ok (VC [.agg (s.cells a),.i .i64 (i:Int),.i .i64 (k:Int),.i .u64 x] J) fun q=>(∃ a',q.1=.aG [.agg ((s.ke i k x).cells a'),.i .i64 0]/\rX a' (s.ke i k x).l)/\Ext J q.2:=by
 refine (gP (ts:=(s.ke i k x).ts) (s:=ZM K5) (rest:=[.i .i64 0]) (s.ke i k x).deep rfl ?_).mono fun q ⟨⟨vs,g1,g2⟩,g3⟩=>?_
 ·simp only [gi.cells]
  have il:=(List.getElem?_eq_some_iff.1 hi).1
  obtain ⟨b,oo,c,d,ea,hP,hR',vM⟩:=ha.obj hi
  obtain ⟨vs,v1,v2,v3⟩:=ha.all
  subst ea
  have ld:=fun J:AH O=>vM O J
  have l0:=fun J:AH O=>(ld J).1
  have l1:=fun J:AH O=>(ld J).2.1
  have l2:=fun J:AH O=>(ld J).2.2.1
  have l3:=fun J:AH O=>(ld J).2.2.2.1
  have l4:=fun J:AH O=>(ld J).2.2.2.2.1
  have l5:=fun J:AH O=>(ld J).2.2.2.2.2.1
  have l6:=fun J:AH O=>(ld J).2.2.2.2.2.2.1
  have l7:=fun J:AH O=>(ld J).2.2.2.2.2.2.2
  have rR:∀ J:AH O,J.bU c o.P.length 1=some (o.P.map (AV.i .u64)):=fun J=>(hP.Wl O J).bU
  have f0:(false == false)=true:=rfl
  have dn:decide ((k:Int)<0)=false:=decide_eq_false (by omega)
  have dk:decide ((k:Int)>=(o.P.length:Int))=false:=decide_eq_false (by omega)
  have kb:(k+1).ble (o.P.map (AV.i .u64)).length=true:=by rw [List.length_map];exact Nat.ble_eq_true_of_le hk
  have ks:bF (o.P.map (AV.i .u64)) k [.i .u64 x]=(o.P.set k x).map (AV.i .u64):=by rw [jb (by simpa using hk),List.map_set]
  have ib:(i*8+8).ble vs.length=true:=by rw [v1];exact Nat.ble_eq_true_of_le (by omega)
  have lR:∀ x:Int,(o.P.set k x).length=o.P.length:=fun x=>List.length_set
  (unfold ZM K5 qmh;refine oQ kb ks ib v3 (cj l0 (cj l1 (cj l2 (cj l3 (cj l4 (cj l5 (cj l6 (cj l7 (cj f0 (cj dn (cj dk (cj rR (cj @iL (cj @cU (cj @bO (cj @cB @bd)))))))))))))))) ?_)
  generalize hJ:AH.put _ (J.next+1) _=J3
  have n3:J3.next=J.next+10:=by rw [<-hJ];simp only [aN]
  have kR:J3.aa (J.next+2+1+1)=some (.cells true pW ((o.P.set k x).map (.i .u64))):=by rw [<-hJ];((try simp only [aN] at *);simp -implicitDefEqProofs (disch:=(first |omega |rfl |assumption |(simp only [aN];first |omega |assumption))) only [aE,aq,bd,ak])
  have kL:J3.aa (J.next+2+1+2+3+1)=some (.cells true DA (bF vs (i*8) [.i .i64 (o.h.p:Int),.i .i64 (o.h.r:Int),.i .i64 (o.h.s:Int),.i .i64 (o.h.g:Int),.b o.h.l,.sl (.loc (.n (J.next+2+1+1)) 0 1) o.P.length,.sl d o.R.length,.i .u64 o.word])):=by rw [<-hJ];((try simp only [aN] at *);simp -implicitDefEqProofs (disch:=(first |omega |rfl |assumption |(simp only [aN];first |omega |assumption))) only [aE,aq,bd,ak])
  have E3:Ext J J3:=by
   refine ⟨by omega,fun b hb=>?_⟩
   rw [<-hJ]
   ((try simp only [aN] at *);simp -implicitDefEqProofs (disch:=(first |omega |rfl |assumption |(simp only [aN];first |omega |assumption))) only [aE,aq,bd,ak])
  clear hJ
  have SX:s.l.getD i ⟨⟨0,0,0,0,false⟩,[],[],0⟩=o:=by rw [List.getD_eq_getElem?_getD,hi];rfl
  have Ud:Ow J3 (gn (o.P.set k x)) (.sl (.loc (.n (J.next+2+1+1)) 0 1) o.P.length) [J.next+2+1+1]:=by
   have:=Ow.leaves (J:=J3) (el:=pW) (es:=1) (n:=(o.P.set k x).length) (a:=.loc (.n (J.next+2+1+1)) 0 1) (xs:=(o.P.set k x).map (.i .u64)) (ba.new (by simp) kR (by omega)) (eE _)
   rw [<-dz] at this
   unfold gn
   rw [List.length_set] at this ⊢
   exact this
  have K6:dx J3 (OV.row {o with P:=o.P.set k x}) [.i .i64 (o.h.p:Int),.i .i64 (o.h.r:Int),.i .i64 (o.h.s:Int),.i .i64 (o.h.g:Int),.b o.h.l,.sl (.loc (.n (J.next+2+1+1)) 0 1) o.P.length,.sl d o.R.length,.i .u64 o.word] [J.next+2+1+1]:=by
   have h5:=dx.app (dx.im (J:=J3) (fy.EX (vs:=o.h.av) rfl)) (dx.cons Ud (dx.cons (.im (jm hR')) (dx.im (J:=J3) (fy.EX (vs:=[.i .u64 o.word]) rfl)) (by simp)) (by simp)) (by simp)
   simpa [OV.row,Hd.av] using h5
  have all:=tv v2 il K6
  have ZK:Ow J3 (.sl DA 8 s.l.length ((s.l.set i {o with P:=o.P.set k x}).flatMap OV.row)) (.sl (.loc (.n (J.next+2+1+2+3+1)) 0 8) s.l.length) ([J.next+2+1+2+3+1]++[J.next+2+1+1]):=
   .sl (ba.new (by rw [kJ (by rw [v1];show i*8+8<=_;omega),v1]) kL (by omega)).p all fun b hb hm=>by
    simp [SA.bk] at hb hm;omega
  refine U.2 ⟨_,rfl,E3,[]++(([J.next+2+1+2+3+1]++[J.next+2+1+1])++[]),?_,fun b hb=>?_⟩
  ·unfold gi.ts gi.ke
   rw [SX]
   simp only [List.length_set]
   exact (dx.im (fy.EX (vs:=[.i .i64 8,.i .i64 s.size,.i .i64 s.top,.i .i64 s.dW]) rfl)).app (.cons ZK .nil (by simp)) (by simp)
  ·simp at hb;omega
 ·obtain ⟨a',rfl,g4⟩:=gi.un g2
  exact ⟨⟨a',g1,g4⟩,g3⟩
end Go.Abs.Tryz
