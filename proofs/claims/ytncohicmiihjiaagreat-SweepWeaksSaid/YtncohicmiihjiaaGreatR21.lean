/-
  The document of layer 21 (grey): what is gone over next. No conditions.
-/
import Derived.Test.YtncohicmiihjiaaGreatR20
import Derived.Test.YtncohicmiihjiaaGreatM21
import Derived.Test.YtncohicmiihjiaaGreatS9w
set_option linter.unusedVariables false
set_option linter.unusedSimpArgs false
set_option linter.constructorNameAsVariable false
set_option linter.unusedSimpArgs false
set_option linter.unusedVariables false
set_option linter.unusedSectionVars false
set_option maxHeartbeats 4000000
namespace Go.Abs.Tryz
open Go Go.Abs
variable {O:Type}
structure dE where
 m:ft
 cO:List OV
 dn:List Int
def dE.ts (s:dE):List TV:=s.m.ts++[.sl Dk 8 s.cO.length (s.cO.flatMap OV.row),nX s.dn]
def dE.cells (s:dE) (a b c e d:SA):List AV:=[.sl a s.m.l.length,.sl b s.m.now.length,.i .i64 s.m.top,.sl c s.m.mv.length,.i .i64 s.m.steps,.sl e s.cO.length,.sl d s.dn.length]
structure dE.At (s:dE) (a b c e d:SA):Prop where
 m:s.m.At a b c
 cO:ss e s.cO
 dn:Ints .i64 d s.dn
theorem dE.un {s:dE} {us:List AV} (h:fF s.ts us):∃ a b c e d,us=s.cells a b c e d/\s.At a b c e d:=by
 unfold dE.ts ft.ts at h
 cases h with
 |cons h0 h=>cases h with
 |cons h1 h=>cases h with
 |cons h2 h=>cases h with
 |cons h3 h=>cases h with
 |cons h4 h=>cases h with
 |cons h5 h=>cases h with
 |cons h6 h=>cases h with
 |nil=>
  obtain ⟨a,rfl,ia⟩:=Row.of OV.len h0 rfl
  obtain ⟨b,rfl,ib⟩:=qs h1
  obtain ⟨c,rfl,ic⟩:=vc h3
  obtain ⟨e,rfl,ie⟩:=Row.of OV.len h5 rfl
  obtain ⟨d,rfl,id_⟩:=vc h6
  rw [h2.leaf,h4.leaf]
  exact ⟨a,b,c,e,d,rfl,⟨ia,ib,ic⟩,ie,id_⟩
theorem dE.KO {s:dE} {a b c e d:SA} (h:s.At a b c e d):fF s.ts (s.cells a b c e d):=by
 have:=(ft.KO h.m).app (.cons (h.cO.im Dk) (.cons (qt h.dn) .nil))
 exact this
theorem dE.deep (s:dE):∀ t∈s.ts,t.deep 5:=by
 have hint:∀ (k:IntKind) (l:List Int),∀ t∈l.flatMap (nI k),t.deep 4:=fun k l t ht=>by
  obtain ⟨n,_,hn⟩:=List.mem_flatMap.1 ht
  simp only [nI,List.mem_singleton] at hn
  subst hn;exact trivial
 intro t ht
 unfold dE.ts at ht
 rcases List.mem_append.1 ht with ht |ht
 ·exact s.m.deep t ht
 ·simp only [List.mem_cons,List.not_mem_nil,or_false] at ht
  rcases ht with rfl |rfl
  ·intro t ht
   obtain ⟨x,_,hx⟩:=List.mem_flatMap.1 ht
   exact x.deep t hx
  ·exact hint _ _
theorem oW {α:Type} {f:α->Bool}:∀ {l:List α} {k:Nat} {x:α},l[k]? = some x->f x=true->(∀ j y,j<k->l[j]? = some y->f y=false)->l.find? f=some x
 |[],k,x,h,_,_=>by simp at h
 |y::l,0,x,h,hf,_=>by simp at h;subst h;simp [List.find?,hf]
 |y::l,k+1,x,h,hf,hb=>by
  have hy:=hb 0 y (by omega) rfl
  rw [List.find?_cons,hy]
  exact oW (by simpa using h) hf fun j z hj hz=>hb (j+1) z (by omega) (by simpa using hz)
theorem xG {α:Type} {f:α->Bool} {l:List α} (h:∀ (j:Nat) (y:α),l[j]? = some y->f y=false):l.find? f=none:=by
 rw [List.find?_eq_none]
 intro x hx
 obtain ⟨j,hj⟩:=List.getElem?_of_mem hx
 rw [h j x hj];simp
theorem Oh {J:AH O} {d:SA} {dl:List Nat} (hd:Ints .i64 d (dl.map fun (i:Nat)=>(i:Int))) (hl:dl.length<=100000) (x:Nat):KT [.sl d dl.length,.i .i64 (x:Int)] J=some (.b (dl.contains x),J):=by
 have lp:Ok (bC (Zd (d,dl.length) (x:Int)) ([.i .i64 0],J)) fun q=>(q=.inr (.b true,J)/\dl.contains x=true) ∨ (q=.inl ([],J)/\dl.contains x=false):=by
  refine Ok.count dl.length (fun k s=>s=([.i .i64 (k:Int)],J)/\∀ j,j<k->dl[j]? ≠ some x) ?_ ?_ ⟨rfl,fun j hj=>by omega⟩
  ·rintro k _ hk ⟨rfl,hb⟩
   obtain ⟨y,hy⟩:∃ y,dl[k]? = some y:=⟨_,List.getElem?_eq_getElem hk⟩
   obtain ⟨b2,o2,rfl,ld⟩:=hd.at (i:=k) (x:=(y:Int)) (by rw [List.getElem?_map,hy];rfl)
   have ld:=ld O J
   have i1:decide ((k:Int)<(dl.length:Int))=true:=decide_eq_true (by omega)
   have i0:decide ((0:Int)<=(k:Int))=true:=decide_eq_true (by omega)
   have w1:IntKind.i64.wrap ((k:Int)+1)=((k+1:Nat):Int):=by rw [cd (by omega)];omega
   by_cases c:y=x
   ·have e:((y:Int) == (x:Int))=true:=by simp [c]
    (unfold Zd SA.ref;refine tg i0 i1 @Bool.and_true @Int.toNat_natCast (cj @Nat.mul_one (cj ld e)) ?_)
    exact U.2 (.inl ⟨rfl,by rw [List.contains_iff_mem];exact c▸List.mem_of_getElem? hy⟩)
   ·have e:((y:Int) == (x:Int))=false:=by rw [beq_eq_false_iff_ne];omega
    (unfold Zd SA.ref;refine tg i0 i1 @Bool.and_true @Int.toNat_natCast (cj @Nat.mul_one (cj ld (cj e w1))) ?_)
    exact U.2 ⟨rfl,fun j hj=>by
     by_cases cj:j=k
     ·subst cj;rw [hy];simpa using c
     ·exact hb j (by omega)⟩
  ·rintro _ ⟨rfl,hb⟩
   have i1:decide ((dl.length:Int)<(dl.length:Int))=false:=decide_eq_false (by omega)
   (unfold Zd;refine kf i1 ?_)
   refine U.2 (.inr ⟨rfl,?_⟩)
   cases h:dl.contains x with
   |false=>rfl
   |true=>
    exfalso
    obtain ⟨j,hj⟩:=List.getElem?_of_mem (List.contains_iff_mem.1 h)
    exact hb j (List.getElem?_eq_some_iff.1 hj).1 hj
 obtain ⟨q,eq,h⟩:=lp
 rcases h with ⟨rfl,h⟩ |⟨rfl,h⟩
 ·(unfold KT qtz;refine RY eq @eG @cH ?_)
  rw [h]
 ·(unfold KT qtz;refine RY eq @eG @cH ?_)
  rw [h]
def Bc (x:Option Nat):Int:=match x with |some j=>(j:Int) |none => -1
theorem S9 {J:AH O} {e:SA} {Ds:List DO} (he:ss e (Ds.map DO.ov)) (hl:Ds.length<=100000) (w:Int):KU [.sl e Ds.length,.i .u64 w] J=some (.i .i64 (Bc (Kr Ds w)),J):=by
 have lp:Ok (bC (Ze (e,Ds.length) w) ([.i .i64 0],J)) fun q=>(∃ j:Nat,q=.inr (.i .i64 (j:Int),J)/\Kr Ds w=some j) ∨ (q=.inl ([],J)/\Kr Ds w=none):=by
  refine Ok.count Ds.length (fun k s=>s=([.i .i64 (k:Int)],J)/\∀ (j:Nat) (d:DO),j<k->Ds[j]? = some d->d.ref≠w) ?_ ?_ ⟨rfl,fun j d hj=>by omega⟩
  ·rintro k _ hk ⟨rfl,hb⟩
   obtain ⟨d,hd⟩:∃ y,Ds[k]? = some y:=⟨_,List.getElem?_eq_getElem hk⟩
   obtain ⟨b2,o2,_,_,rfl,_,_,ld⟩:=he.obj (i:=k) (x:=d.ov) (by rw [List.getElem?_map,hd];rfl)
   have l7:J.ld b2 (o2+k*8+7)=some (.i .u64 d.ref):=(ld O J).2.2.2.2.2.2.2
   have i1:decide ((k:Int)<(Ds.length:Int))=true:=decide_eq_true (by omega)
   have i0:decide ((0:Int)<=(k:Int))=true:=decide_eq_true (by omega)
   have w1:IntKind.i64.wrap ((k:Int)+1)=((k+1:Nat):Int):=by rw [cd (by omega)];omega
   by_cases c:d.ref=w
   ·have e:(d.ref == w)=true:=by simp [c]
    (unfold Ze SA.ref;refine tg i0 i1 @Bool.and_true @Int.toNat_natCast (cj l7 e) ?_)
    refine U.2 (.inl ⟨k,rfl,?_⟩)
    unfold Kr
    rw [List.findIdx?_eq_some_iff_getElem]
    obtain ⟨h1,h2⟩:=List.getElem?_eq_some_iff.1 hd
    refine ⟨h1,by rw [h2];exact e,fun i pj=>?_⟩
    have xS:i<Ds.length:=by omega
    have:=hb i (Ds[i]'xS) pj (List.getElem?_eq_getElem xS)
    simpa using this
   ·have e:(d.ref == w)=false:=by rw [beq_eq_false_iff_ne];exact c
    (unfold Ze SA.ref;refine tg i0 i1 @Bool.and_true @Int.toNat_natCast (cj l7 (cj e w1)) ?_)
    exact U.2 ⟨rfl,fun j b hj hjb=>by
     by_cases cj:j=k
     ·subst cj;rw [hd] at hjb;cases hjb;exact c
     ·exact hb j b (by omega) hjb⟩
  ·rintro _ ⟨rfl,hb⟩
   have i1:decide ((Ds.length:Int)<(Ds.length:Int))=false:=decide_eq_false (by omega)
   (unfold Ze;refine kf i1 ?_)
   refine U.2 (.inr ⟨rfl,?_⟩)
   unfold Kr
   rw [List.findIdx?_eq_none_iff]
   intro d hd
   obtain ⟨j,hj⟩:=List.getElem?_of_mem hd
   have:=hb j d (List.getElem?_eq_some_iff.1 hj).1 hj
   simpa using this
 obtain ⟨q,eq,h⟩:=lp
 rcases h with ⟨j,rfl,h⟩ |⟨rfl,h⟩
 ·(unfold KU quc;refine RY eq @eG @cH ?_)
  simp only [h,Bc]
 ·(unfold KU quc;refine RY eq @eG @cH ?_)
  simp only [h,Bc]
def ET (Ds:List DO) (mv dl:List Nat):Option Nat:=
 match mv.find? (fun i => !dl.contains i && !sy Ds i) with
 |some k=>some k
 |none=>mv.find? (fun i => !dl.contains i && sy Ds i)
theorem KV {J:AH O} {s:dE} {a b c e d:SA} (h:s.At a b c e d) {Ds:List DO} {mv dl:List Nat} (hm:s.m.mv=mv.map fun (i:Nat)=>(i:Int)) (hd:s.dn=dl.map fun (i:Nat)=>(i:Int)) (hl:∀ i∈mv,∃ o,s.m.l[i]? = some o/\o.h.l=sy Ds i) (UM:mv.length<=100000) (pl:dl.length<=100000):
  Ok (Mi [.agg (s.cells a b c e d)] J) fun r=>r.1=.i .i64 (Bc (ET Ds mv dl))/\Ext J r.2:=by
 have Zf:=h.m.mv
 have Zg:=h.dn
 rw [hm] at Zf
 rw [hd] at Zg
 have ml:s.m.mv.length=mv.length:=by rw [hm,List.length_map]
 have dln:s.dn.length=dl.length:=by rw [hd,List.length_map]
 simp only [dE.cells,ml,dln]
 (unfold Mi qt6;refine zE ?_)
 generalize hJ:AH.put _ J.next _=J1
 have b1:J1.aa J.next=some (.cells true 81 [.sl a s.m.l.length,.sl b s.m.now.length,.i .i64 s.m.top,.sl c mv.length,.i .i64 s.m.steps,.sl e s.cO.length,.sl d dl.length]):=by rw [<-hJ];exact aH
 have E1:Ext J J1:=⟨by rw [<-hJ];simp,fun b hb=>by rw [<-hJ];exact hU⟩
 clear hJ
 have inner:∀ (ps:Nat),ps<2->Ok (bC (Vy J KT (ps:Int)) ([.i .i64 0],J1)) fun q=>(∃ k:Nat,q=.inr (.inr (.inr (.i .i64 (k:Int),J1)))/\mv.find? (fun i => !dl.contains i && (sy Ds i == decide (ps=1)))=some k) ∨ (q=.inl ([],J1)/\mv.find? (fun i => !dl.contains i && (sy Ds i == decide (ps=1)))=none):=by
  intro ps hps
  refine Ok.count mv.length (fun k s'=>s'=([.i .i64 (k:Int)],J1)/\∀ (j:Nat) (y:Nat),j<k->mv[j]? = some y->(!dl.contains y && (sy Ds y == decide (ps=1)))=false) ?_ ?_ ⟨rfl,fun j y hj=>by omega⟩
  ·rintro k _ hk ⟨rfl,hb⟩
   obtain ⟨y,hy⟩:∃ y,mv[k]? = some y:=⟨_,List.getElem?_eq_getElem hk⟩
   obtain ⟨o,ho,C4⟩:=hl y (List.mem_of_getElem? hy)
   have yl:=(List.getElem?_eq_some_iff.1 ho).1
   obtain ⟨b2,o2,ec,ld⟩:=Zf.at (i:=k) (x:=(y:Int)) (by rw [List.getElem?_map,hy];rfl)
   have ld:=ld O J1
   obtain ⟨b3,o3,_,_,ea,_,_,ld3⟩:=h.m.l.obj ho
   have l4:J1.ld b3 (o3+y*8+4)=some (.b o.h.l):=(ld3 O J1).2.2.2.2.1
   have i1:decide ((k:Int)<(mv.length:Int))=true:=decide_eq_true (by omega)
   have i0:decide ((0:Int)<=(k:Int))=true:=decide_eq_true (by omega)
   have i2:decide ((0:Int)<=(y:Int))=true:=decide_eq_true (by omega)
   have i3:decide ((y:Int)<(s.m.l.length:Int))=true:=decide_eq_true (by omega)
   have w1:IntKind.i64.wrap ((k:Int)+1)=((k+1:Nat):Int):=by rw [cd (by omega)];omega
   have hh:=Oh (J:=J1) Zg pl y
   have ep:((ps:Int) == 1)=decide (ps=1):=by
    by_cases c:ps=1
    ·subst c;rfl
    ·rw [decide_eq_false c,beq_eq_false_iff_ne];omega
   have t0:(true == true)=true:=rfl
   have t1:(false == true)=false:=rfl
   rw [ea,ec] at b1
   cases hc:dl.contains y with
   |true=>
    rw [hc] at hh
    (unfold Vy SA.ref;refine tg i0 i1 @Bool.and_true b1 (cj @Int.toNat_natCast (cj @Nat.mul_one (cj ld (cj hh (cj @Bool.not_true (cj t1 w1)))))) ?_)
    refine U.2 ⟨rfl,fun j z hj hz=>?_⟩
    by_cases cj:j=k
    ·subst cj;rw [hy] at hz;cases hz;rw [hc];rfl
    ·exact hb j z (by omega) hz
   |false=>
    rw [hc] at hh
    cases he:(sy Ds y == decide (ps=1)) with
    |true=>
     have lU:(o.h.l == decide (ps=1))=true:=by rw [C4];exact he
     (unfold Vy SA.ref;refine tg i0 i1 i2 i3 (cj @Bool.and_true (cj b1 (cj @Int.toNat_natCast (cj @Nat.mul_one (cj ld (cj hh (cj @Bool.not_false (cj t0 (cj l4 (cj ep lU)))))))))) ?_)
     refine U.2 (.inl ⟨y,rfl,oW hy (by rw [hc,he];rfl) hb⟩)
    |false=>
     have lU:(o.h.l == decide (ps=1))=false:=by rw [C4];exact he
     (unfold Vy SA.ref;refine tg i0 i1 i2 i3 (cj @Bool.and_true (cj b1 (cj @Int.toNat_natCast (cj @Nat.mul_one (cj ld (cj hh (cj @Bool.not_false (cj t0 (cj l4 (cj ep (cj lU w1))))))))))) ?_)
     refine U.2 ⟨rfl,fun j z hj hz=>?_⟩
     by_cases cj:j=k
     ·subst cj;rw [hy] at hz;cases hz;rw [hc,he];rfl
     ·exact hb j z (by omega) hz
  ·rintro _ ⟨rfl,hb⟩
   have i1:decide ((mv.length:Int)<(mv.length:Int))=false:=decide_eq_false (by omega)
   (unfold Vy;refine Hr b1 i1 ?_)
   exact U.2 (.inr ⟨rfl,xG fun j y hj=>hb j y (List.getElem?_eq_some_iff.1 hj).1 hj⟩)
 have f0:(fun i => !dl.contains i && (sy Ds i == decide (0=1)))=fun i => !dl.contains i && !sy Ds i:=by
  funext i;cases sy Ds i<;>rfl
 have f1:(fun i => !dl.contains i && (sy Ds i == decide (1=1)))=fun i => !dl.contains i && sy Ds i:=by
  funext i;cases sy Ds i<;>rfl
 obtain ⟨q0,e0,h0⟩:=inner 0 (by decide)
 obtain ⟨q1,e1,h1⟩:=inner 1 (by decide)
 rw [f0] at h0
 rw [f1] at h1
 have z0:decide ((0:Int)<2)=true:=rfl
 have z1:decide ((1:Int)<2)=true:=rfl
 have z2:decide ((2:Int)<2)=false:=rfl
 have w0:IntKind.i64.wrap 1=1:=rfl
 have w1:IntKind.i64.wrap 2=2:=rfl
 rw [show ((0:Nat):Int)=0 from rfl] at e0
 rw [show ((1:Nat):Int)=1 from rfl] at e1
 unfold ET
 rcases h0 with ⟨k,rfl,h0⟩ |⟨rfl,h0⟩
 ·rw [h0]
  have l1:bC (KW J KT) ([.i .i64 0],J1)=some (.inr (.i .i64 (k:Int),J1)):=by
   refine kc ?_
   (unfold KW;exact zO3 z0 e0 @eG)
  refine Hr l1 @eG ?_
  exact U.2 ⟨rfl,E1⟩
 ·rw [h0]
  have s0:KW J KT ([.i .i64 0],J1)=some (.inl ([.i .i64 1],J1)):=by
   (unfold KW;exact zO4 z0 e0 @cH w0)
  rcases h1 with ⟨k,rfl,h1⟩ |⟨rfl,h1⟩
  ·rw [h1]
   have l1:bC (KW J KT) ([.i .i64 0],J1)=some (.inr (.i .i64 (k:Int),J1)):=by
    rw [ur,s0,cH]
    refine kc ?_
    (unfold KW;exact zO3 z1 e1 @eG)
   refine Hr l1 @eG ?_
   exact U.2 ⟨rfl,E1⟩
  ·rw [h1]
   have s1:KW J KT ([.i .i64 1],J1)=some (.inl ([.i .i64 2],J1)):=by
    (unfold KW;exact zO4 z1 e1 @cH w1)
   have l1:bC (KW J KT) ([.i .i64 0],J1)=some (.inl ([],J1)):=by
    rw [ur,s0,cH,ur,s1,cH]
    refine kc ?_
    (unfold KW;exact zO1 z2)
   refine Hr l1 @cH ?_
   exact U.2 ⟨rfl,E1⟩
end Go.Abs.Tryz
namespace Go.Abs.Tryz
open Go Go.Abs
variable {O:Type}
theorem xH {l:List Nat} (hl:l.Nodup) {f:Nat->Bool} {n:Nat} (h:∀ i∈l,f i=true ↔ i∉l.take n):l.find? f=l[n]? := by
 have lo:∀ (j y:Nat),j<n->l[j]? = some y->f y=false:=fun j y hj hy=>by
  have:y∈l.take n:=List.mem_of_getElem? (i:=j) (by rw [List.getElem?_take_of_lt hj];exact hy)
  cases hf:f y with
  |false=>rfl
  |true=>exact absurd this ((h y (List.mem_of_getElem? hy)).1 hf)
 cases hx:l[n]? with
 |some x=>exact oW hx ((h x (List.mem_of_getElem? hx)).2 (jq hl hx)) lo
 |none=>
  have:=List.getElem?_eq_none_iff.1 hx
  exact xG fun j y hj=>lo j y (by have:=(List.getElem?_eq_some_iff.1 hj).1;omega) hj
theorem jI {f g:Nat->Bool}:∀ l:List Nat,l.find? (fun i=>g i && f i)=(l.filter g).find? f
 |[]=>rfl
 |x::l=>by
  rw [List.find?_cons,List.filter_cons]
  cases hg:g x with
  |false=>simp only [Bool.false_and,Bool.false_eq_true,if_false];exact jI l
  |true=>
   simp only [Bool.true_and,if_true]
   rw [List.find?_cons]
   cases f x with
   |true=>rfl
   |false=>exact jI l
theorem KX {Ds:List DO} {p:PS} (pi:PI Ds p) {dl:List Nat} (hd:∀ i,i∈dl ↔ p.oM Ds i):ET Ds p.mv dl=p.next Ds:=by
 have e1:p.mv.find? (fun i => !dl.contains i && !sy Ds i)=(p.sm Ds)[p.sd]? := by
  rw [show (fun i => !dl.contains i && !sy Ds i)=fun i=>(!sy Ds i) && !dl.contains i from funext fun i=>Bool.and_comm _ _,jI]
  refine xH (pi.nd.filter _) fun i hi=>?_
  have hs:=(List.mem_filter.1 hi).2
  have nl:i∉(p.lg Ds).take p.ld:=fun h=>by
   have:=(List.mem_filter.1 (List.mem_of_mem_take h)).2
   rw [this] at hs;cases hs
  have:=hd i
  unfold PS.oM at this
  constructor
  ·intro h hm
   have:i∈dl:=this.2 (.inl hm)
   rw [<-List.contains_iff_mem] at this
   rw [this] at h;cases h
  ·intro h
   have h2:i∉dl:=fun hm=>by
    rcases this.1 hm with q |q
    ·exact h q
    ·exact nl q
   cases hc:dl.contains i with
   |false=>rfl
   |true=>exact absurd (List.contains_iff_mem.1 hc) h2
 have e2:p.mv.find? (fun i => !dl.contains i && sy Ds i)=(p.lg Ds)[p.ld]? := by
  rw [show (fun i => !dl.contains i && sy Ds i)=fun i=>(sy Ds i) && !dl.contains i from funext fun i=>Bool.and_comm _ _,jI]
  refine xH (pi.nd.filter _) fun i hi=>?_
  have hs:=(List.mem_filter.1 hi).2
  have nl:i∉(p.sm Ds).take p.sd:=fun h=>by
   have:=(List.mem_filter.1 (List.mem_of_mem_take h)).2
   rw [hs] at this;cases this
  have:=hd i
  unfold PS.oM at this
  constructor
  ·intro h hm
   have:i∈dl:=this.2 (.inr hm)
   rw [<-List.contains_iff_mem] at this
   rw [this] at h;cases h
  ·intro h
   have h2:i∉dl:=fun hm=>by
    rcases this.1 hm with q |q
    ·exact nl q
    ·exact h q
   cases hc:dl.contains i with
   |false=>rfl
   |true=>exact absurd (List.contains_iff_mem.1 hc) h2
 unfold ET PS.next
 rw [e1,e2]
 by_cases c:p.sd<(p.sm Ds).length
 ·rw [if_pos c,List.getElem?_eq_getElem c]
 ·rw [if_neg c,List.getElem?_eq_none (by omega)]
def Zh (d:DO) (x:Option Nat):Hd:=match x with |none=>d.h |some _=>d.h.aI
def Oi (d:DO) (x:Option Nat):Int:=match x with |none=>d.ref |some t=>d.to t
def Dc (d:DO) (x:Option Nat):Int:=match x with |none=>0 |some t=>d.to t
structure DM (Ds:List DO) (p:PS) (sc:Nat->Prop) (s:ft):Prop where
 len:s.l.length=Ds.length/\s.now.length=Ds.length
 l:∀ (i:Nat) (d:DO),Ds[i]? = some d->∃ o,s.l[i]? = some o/\o.h=Zh d (p.now i)/\o.P.length=d.P.length/\o.R=d.R/\o.word=Oi d (p.now i)/\(¬ sc i->o.P=d.P)
 nw:∀ (i:Nat) (d:DO),Ds[i]? = some d->s.now[i]? = some (Dc d (p.now i))
 top:s.top=(p.top:Int)
 mv:s.mv=p.mv.map fun (i:Nat)=>(i:Int)
theorem DM.again {Ds:List DO} {p:PS} {sc:Nat->Prop} {s:ft} (h:DM Ds p sc s) (b:Bool):DM Ds p sc (s.again b):=⟨h.len,h.l,h.nw,h.top,h.mv⟩
theorem DM.steps {Ds:List DO} {p:PS} {sc:Nat->Prop} {s:ft} (h:DM Ds p sc s) (x:Int):DM Ds p sc {s with steps:=x}:=⟨h.len,h.l,h.nw,h.top,h.mv⟩
theorem DM.new (Ds:List DO) (sc:Nat->Prop):DM Ds PS.zero sc (ft.new (Ds.map DO.ov)) where
 len:=by simp [ft.new]
 l:=fun i d hd=>⟨d.ov,by simp [ft.new,hd],rfl,rfl,rfl,rfl,fun _=>rfl⟩
 nw:=fun i d hd=>by
  have:=(List.getElem?_eq_some_iff.1 hd).1
  simp [ft.new,List.getElem?_replicate,this,PS.zero,Dc]
 top:=rfl
 mv:=rfl
theorem DM.el {Ds:List DO} {p:PS} {sc:Nat->Prop} {s:ft} (h:DM Ds p sc s) {i:Nat} {d:DO} (hd:Ds[i]? = some d) (hn:p.now i=none) (hs:¬ sc i):s.l[i]? = some d.ov:=by
 obtain ⟨o,h1,h2,h3,h4,h5,h6⟩:=h.l i d hd
 rw [hn] at h2 h5
 rw [h1]
 have h7:o.P=d.P:=h6 hs
 clear h6
 obtain ⟨oh,oP,oR,ow⟩:=o
 simp only [Zh,Oi] at h2 h4 h5 h7
 rw [h2,h4,h5,h7]
 rfl
theorem DM.move {Ds:List DO} {p:PS} {sc:Nat->Prop} {s:ft} (h:DM Ds p sc s) {j:Nat} {d:DO} (hd:Ds[j]? = some d) (hn:p.now j=none) (hs:¬ sc j):DM Ds (p.move Ds j) sc (s.fh j d.ov):=by
 have hj:=(List.getElem?_eq_some_iff.1 hd).1
 rw [ni hn hd]
 have up:∀ (t i:Nat),i≠j->cW p.now j t i=p.now i:=fun t i hi=>by unfold cW;rw [if_neg hi]
 have ui:∀ (t:Nat),cW p.now j t j=some t:=fun t=>by unfold cW;rw [if_pos rfl]
 have hw:(s.jP d.ov).word=d.to (if d.h.l then d.at_ else p.top):=by
  show (if d.h.l then d.ref else 2*s.top+1)=_
  unfold DO.ref DO.to
  rw [h.top]
  cases d.h.l with
  |true=>rfl
  |false=>simp only [Bool.false_eq_true,if_false];unfold m8;omega
 refine ⟨by simp [ft.fh,h.len],fun i b hb=>?_,fun i b hb=>?_,?_,?_⟩
 ·show ∃ o,(s.l.set j (s.jP d.ov))[i]? = some o/\_
  by_cases c:i=j
  ·subst c
   rw [hd] at hb;cases hb
   refine ⟨s.jP d.ov,by rw [List.getElem?_set,if_pos rfl,if_pos (by rw [h.len.1];exact hj)],?_,rfl,rfl,?_,fun _=>rfl⟩
   ·show d.h.aI=Zh d (cW p.now i _ i);rw [ui];rfl
   ·show (s.jP d.ov).word=Oi d (cW p.now i _ i);rw [ui];exact hw
  ·obtain ⟨o,h1,h2⟩:=h.l i b hb
   refine ⟨o,by rw [List.getElem?_set,if_neg (fun e=>c e.symm)];exact h1,?_⟩
   show o.h=Zh b (cW p.now j _ i)/\_/\_/\o.word=Oi b (cW p.now j _ i)/\_
   rw [up _ i c];exact h2
 ·show (s.now.set j (s.jP d.ov).word)[i]? = some (Dc b (cW p.now j _ i))
  by_cases c:i=j
  ·subst c
   rw [hd] at hb;cases hb
   rw [List.getElem?_set,if_pos rfl,if_pos (by rw [h.len.2];exact hj),ui,hw];rfl
  ·rw [List.getElem?_set,if_neg (fun e=>c e.symm),up _ i c];exact h.nw i b hb
 ·show (if d.h.l then s.top else s.top+d.ov.n)=((p.top+if d.h.l then 0 else d.n:Nat):Int)
  rw [h.top]
  have:d.ov.n=d.n:=rfl
  rw [this]
  cases d.h.l<;>simp
 ·show s.mv++[(j:Int)]=(p.mv++[j]).map _
  rw [h.mv,List.map_append];rfl
theorem Eo {J:AH O} {Ds:List DO} {p:PS} {sc:Nat->Prop} {s:ft} {a b c:SA} (dm:DM Ds p sc s) (hs:s.At a b c) (pi:PI Ds p) (Hs:∀ i,sc i->p.now i≠none) (ok:∀ d∈Ds,d.ok) (vS:Ds.length<=500) (oN:∀ d∈Ds,d.n<=50) (RA:p.top<=100000) (jD:0<=s.steps/\s.steps<=900000) {idx:Int} {q:PS} (h:(idx = -1/\q=p) ∨ ∃ (j:Nat) (d:DO),idx=(j:Int)/\Ds[j]? = some d/\q=p.move Ds j):
  Ok (CS [.agg (s.cells a b c),.i .i64 idx] J) fun r=>∃ s' a' b' c' x,r.1=.aB [.agg (ft.cells s' a' b' c'),.i .u64 x]/\ft.At s' a' b' c'/\DM Ds q sc s'/\s.steps<=s'.steps/\s'.steps<=s.steps+120/\Ext J r.2:=by
 have fw:=pi.bW
 rcases h with ⟨rfl,rfl⟩ |⟨j,d,rfl,hd,rfl⟩
 ·exact (A9 hs (by decide)).mono fun r ⟨⟨a',b',c',g1,g2⟩,g3⟩=>⟨s,a',b',c',0,g1,g2,dm,Int.le_refl _,by omega,g3⟩
 ·have hm:=List.mem_of_getElem? hd
  have dn:=oN d hm
  obtain ⟨o,o1,o2,o3,o4,o5,o6⟩:=dm.l j d hd
  cases hn:p.now j with
  |some t=>
   rw [nh hn]
   have h2:=dm.nw j d hd
   rw [hn] at h2
   refine (Ba hs (by rw [dm.len.1];omega) o1 (x:=d.to t) h2 (xA d t) (by omega)).mono fun r ⟨⟨a',b',c',g1,g2⟩,g3⟩=>⟨_,a',b',c',_,g1,g2,dm.again _,?_,?_,g3⟩
   ·show s.steps<=s.steps+_;split<;>omega
   ·show s.steps+_<=_;split<;>omega
  |none=>
   have nsc:¬ sc j:=fun h=>Hs j h hn
   have h1:=dm.el hd hn nsc
   have h2:=dm.nw j d hd
   rw [hn] at h2
   have dov:d.ov.n=d.n:=rfl
   have dnn:d.n=1+d.P.length+d.R.length:=rfl
   refine (Bb hs (by rw [dm.len.1];omega) (by rw [dm.len.2];omega) (by rw [dm.mv,List.length_map];omega) (o:=d.ov) h1 h2 (by omega) (by rw [dm.top];omega) (ok d hm).h (by show d.P.length<=_;omega) (by show d.R.length<=_;omega)).mono fun r ⟨⟨a',b',c',g1,g2⟩,g3⟩=>⟨_,a',b',c',_,g1,g2,dm.move hd hn nsc,?_,?_,g3⟩
   ·show s.steps<=s.steps+_;split<;>omega
   ·show s.steps+_<=_;rw [dov];split<;>omega
end Go.Abs.Tryz
set_option maxHeartbeats 8000000
namespace Go.Abs.Tryz
open Go Go.Abs
variable {O:Type}
theorem KY {J:AH O} {sb pb:Nat} {Ds:List DO} {p:PS} {sc:Nat->Prop} {s:dE} {a b c e d:SA} (dm:DM Ds p sc s.m) (hs:s.m.At a b c/\ss e s.cO) (hold:s.cO=Ds.map DO.ov) (pi:PI Ds p) (Hs:∀ i,sc i->p.now i≠none) (ok:∀ d∈Ds,d.ok) (ap:∀ (i j:Nat) (a b:DO),i<j->Ds[i]? = some a->Ds[j]? = some b->a.h.l=b.h.l->if a.h.l then a.at_≠b.at_ else a.at_+a.n<=b.at_) (vS:Ds.length<=500) (oN:∀ d∈Ds,d.n<=50) (Zi:∀ q:PS,PI Ds q->q.top<=100000) (pv:PV Ds) {dk:DO} (RF:dk∈Ds) (jD:0<=s.m.steps/\s.m.steps<=800000)
  (oy:J.aa sb=some (.cells true 81 (s.cells a b c e d))) (Uq:J.aa pb=some (.cells true 33 (dk.P.map (.i .u64)))) (db:sb≠pb) (UB:sb<J.next) (Cw:pb<J.next) {h:AH O} (eh:h.next=sb):
  Ok (bC (quh (.loc (.n pb) 0 1,dk.P.length) h KU CS) ([.i .i64 0],J)) fun r=>∃ J',r=([],J')/\∃ (s':dE) (a' b' c':SA) (P':List Int),s'.cO=s.cO/\s'.dn=s.dn/\(s'.m.At a' b' c'/\ss e s'.cO)/\DM Ds (p.scan Ds dk.P) sc s'.m/\P'.length=dk.P.length/\J'.aa sb=some (.cells true 81 (s'.cells a' b' c' e d))/\J'.aa pb=some (.cells true 33 (P'.map (.i .u64)))/\s.m.steps<=s'.m.steps/\s'.m.steps<=s.m.steps+120*dk.P.length/\ei [sb,pb] J J':=by
 have hPl:dk.P.length<=50:=by have:=oN dk RF;unfold DO.n at this;omega
 refine Ok.count dk.P.length (fun q x=>∃ J',x=([.i .i64 (q:Int)],J')/\∃ (s':dE) (a' b' c':SA) (P':List Int),s'.cO=s.cO/\s'.dn=s.dn/\(s'.m.At a' b' c'/\ss e s'.cO)/\DM Ds (p.scan Ds (dk.P.take q)) sc s'.m/\P'.length=dk.P.length/\(∀ j,q<=j->P'[j]? = dk.P[j]?)/\J'.aa sb=some (.cells true 81 (s'.cells a' b' c' e d))/\J'.aa pb=some (.cells true 33 (P'.map (.i .u64)))/\s.m.steps<=s'.m.steps/\s'.m.steps<=s.m.steps+120*q/\ei [sb,pb] J J') ?_ ?_ ⟨J,rfl,s,a,b,c,dk.P,rfl,rfl,hs,dm,rfl,fun _ _=>rfl,oy,Uq,Int.le_refl _,by omega,ei.refl _ _⟩
 ·rintro q _ hq ⟨J1,rfl,s1,a1,b1,c1,P1,o1,d1,Db,dm1,Zj,pp1,AU,Oj,st1,Vz,Zk⟩
  obtain ⟨w,hw⟩:∃ w,dk.P[q]? = some w:=⟨_,List.getElem?_eq_getElem hq⟩
  have yk:P1[q]? = some w:=by rw [pp1 q (Nat.le_refl _)];exact hw
  have pi1:PI Ds (p.scan Ds (dk.P.take q)):=pi.scan
  have ajH:∀ i,sc i->(p.scan Ds (dk.P.take q)).now i≠none:=fun i hi=>by
   cases hn:p.now i with
   |none=>exact absurd hn (Hs i hi)
   |some t=>rw [iV.now i t hn];simp
  have i0:decide ((0:Int)<=(q:Int))=true:=decide_eq_true (by omega)
  have i1:decide ((q:Int)<(dk.P.length:Int))=true:=decide_eq_true (by omega)
  have w1:IntKind.i64.wrap ((q:Int)+1)=((q+1:Nat):Int):=by rw [cd (by omega)];omega
  have lw:(P1.map (AV.i .u64))[q]? = some (.i .u64 w):=by rw [List.getElem?_map,yk];rfl
  have ajI:sb<J1.next:=Nat.lt_of_lt_of_le UB Zk.next
  have ajJ:pb<J1.next:=Nat.lt_of_lt_of_le Cw Zk.next
  simp only [dE.cells] at AU
  have at_:=S9 (J:=J1) (e:=e) (Ds:=Ds) (by have:=Db.2;rw [o1,hold] at this;exact this) (by omega) w
  have ol:s1.cO.length=Ds.length:=by rw [o1,hold,List.length_map]
  rw [ol] at AU
  have Ta:∃ (idx:Int),Bc (Kr Ds w)=idx/\((idx = -1/\(p.scan Ds (dk.P.take q)).ptr Ds w=p.scan Ds (dk.P.take q)) ∨ ∃ (j:Nat) (d:DO),idx=(j:Int)/\Ds[j]? = some d/\(p.scan Ds (dk.P.take q)).ptr Ds w=(p.scan Ds (dk.P.take q)).move Ds j):=by
   rcases pv dk RF w (List.mem_of_getElem? hw) with rfl |⟨j,bj,hj,rfl⟩
   ·have:Kr Ds 0=none:=by
     unfold Kr
     rw [List.findIdx?_eq_none_iff]
     intro x hx
     have:x.ref≠0:=xA x x.at_
     simpa using this
    rw [this]
    exact ⟨_,rfl,.inl ⟨rfl,by unfold PS.ptr;rw [if_pos rfl]⟩⟩
   ·rw [ED ap hj]
    exact ⟨_,rfl,.inr ⟨j,bj,rfl,hj,EE ap hj⟩⟩
  obtain ⟨idx,ajK,Ta⟩:=Ta
  rw [ajK] at at_
  (unfold quh SA.ref;refine tg i0 i1 @Bool.and_true eh (cj AU (cj @Int.toNat_natCast (cj @Nat.mul_one (cj @Nat.zero_add (cj Oj (cj lw at_)))))) ?_)
  have mv:=Eo (J:=J1) dm1 Db.1 pi1 ajH ok vS oN (Zi _ pi1) (by omega) Ta
  simp only [ft.cells] at mv
  refine Ok.step mv fun r ⟨m2,a2,b2,c2,x2,g1,g2,g3,g4,g5,g6⟩=>?_
  obtain ⟨rv,J2⟩:=r
  simp only at g1 g6
  subst g1
  have ajL:=(g6.aa sb ajI).trans AU
  have ajM:=(g6.aa pb ajJ).trans Oj
  refine kf ajL ?_
  generalize hJ:AH.put J2 sb _=J3
  have ajN:J3.aa sb=some (.cells true 81 [.sl a2 m2.l.length,.sl b2 m2.now.length,.i .i64 m2.top,.sl c2 m2.mv.length,.i .i64 m2.steps,.sl e Ds.length,.sl d s1.dn.length]):=by rw [<-hJ];exact aH
  have ajO:J3.aa pb=some (.cells true 33 (P1.map (.i .u64))):=by rw [<-hJ,aA (fun e=>db e.symm)];exact ajM
  have ch3:ei [sb,pb] J1 J3:=⟨by rw [<-hJ];exact g6.next,fun b hb hm=>by
   simp only [List.mem_cons,List.not_mem_nil,or_false,not_or] at hm
   rw [<-hJ,aA hm.1];exact g6.aa b hb⟩
  clear hJ
  have kb:(q+1).ble (P1.map (AV.i .u64)).length=true:=by rw [List.length_map,Zj];exact Nat.ble_eq_true_of_le hq
  have ks:bQ (P1.map (AV.i .u64)) q [.i .u64 x2]=(P1.set q x2).map (AV.i .u64):=by rw [jg (by simpa [Zj] using hq),List.map_set]
  have l1:([AV.i .u64 x2]:List AV).length=1:=rfl
  refine tg ajO kb ks l1 w1 ?_
  refine U.2 ⟨_,rfl,⟨m2,s1.cO,s1.dn⟩,a2,b2,c2,P1.set q x2,o1,d1,⟨g2,Db.2⟩,?_,by rw [List.length_set];exact Zj,fun j hj=>?_,?_,aH,Int.le_trans st1 g4,by show m2.steps<=_;omega,Zk.trans (ch3.trans ⟨by simp,fun b hb hm=>aA (by simp at hm;exact hm.2)⟩)⟩
  ·rw [rQ hw];exact g3
  ·rw [List.getElem?_set_ne (by omega)];exact pp1 j (by omega)
  ·rw [aA db,ajN]
   simp only [dE.cells,ol]
 ·rintro _ ⟨J1,rfl,s1,a1,b1,c1,P1,o1,d1,Db,dm1,Zj,pp1,AU,Oj,st1,Vz,Zk⟩
  have i1:decide ((dk.P.length:Int)<(dk.P.length:Int))=false:=decide_eq_false (by omega)
  (unfold quh;refine kf i1 ?_)
  rw [List.take_length] at dm1
  exact U.2 ⟨J1,rfl,s1,a1,b1,c1,P1,o1,d1,Db,dm1,Zj,AU,Oj,st1,Vz,Zk⟩
end Go.Abs.Tryz
namespace Go.Abs.Tryz
open Go Go.Abs
variable {O:Type}
structure DG (Ds:List DO) (p:PS) (s:dE) (n:Nat):Prop where
 m:DM Ds p (p.oM Ds) s.m
 cO:s.cO=Ds.map DO.ov
 dn:∃ dl:List Nat,s.dn=dl.map (fun (i:Nat)=>(i:Int))/\dl.length=p.sd+p.ld/\∀ i,i∈dl ↔ p.oM Ds i
 st:0<=s.m.steps/\s.m.steps<=7000*n
theorem Ol {Ds:List DO} {p:PS} (pi:PI Ds p) {i:Nat} (h:p.oM Ds i):p.now i≠none:=by
 refine (pi.mem i).1 ?_
 rcases h with h |h
 ·exact (List.mem_filter.1 (List.mem_of_mem_take h)).1
 ·exact (List.mem_filter.1 (List.mem_of_mem_take h)).1
theorem DG.next {Ds:List DO} {p:PS} {s:dE} {n:Nat} (g:DG Ds p s n) (pi:PI Ds p) (vS:Ds.length<=500) {J:AH O} {a b c e d:SA} (h:s.At a b c e d):Ok (Mi [.agg (s.cells a b c e d)] J) fun r=>r.1=.i .i64 (Bc (p.next Ds))/\Ext J r.2:=by
 obtain ⟨dl,d1,d2,d3⟩:=g.dn
 have fw:=pi.bW
 have:=KV (J:=J) h (Ds:=Ds) g.m.mv d1 (fun i hi=>by
  obtain ⟨d,hd⟩:∃ d,Ds[i]? = some d:=⟨_,List.getElem?_eq_getElem (pi.lt i hi)⟩
  obtain ⟨o,o1,o2,_⟩:=g.m.l i d hd
  refine ⟨o,o1,?_⟩
  rw [ig hd,o2]
  unfold Zh
  split<;>rfl) (by omega) (by omega)
 rw [KX pi d3] at this
 exact this
theorem Dl {Ds:List DO} {p:PS} (pi:PI Ds p) {k:Nat} (hk:p.next Ds=some k):∃ (d:DO) (t:Nat),Ds[k]? = some d/\p.now k=some t/\¬ p.oM Ds k/\(∀ i,(p.tick Ds).oM Ds i ↔ p.oM Ds i ∨ i=k)/\(p.tick Ds).sd+(p.tick Ds).ld=p.sd+p.ld+1/\(p.tick Ds).now=p.now/\(p.tick Ds).mv=p.mv/\(p.tick Ds).top=p.top:=by
 have smn:(p.sm Ds).Nodup:=pi.nd.filter _
 have lgn:(p.lg Ds).Nodup:=pi.nd.filter _
 have e2:(p.tick Ds).mv=p.mv:=by unfold PS.tick;split<;>rfl
 have Yq:(p.tick Ds).sm Ds=p.sm Ds:=by unfold PS.sm;rw [e2]
 have Yr:(p.tick Ds).lg Ds=p.lg Ds:=by unfold PS.lg;rw [e2]
 have qF:=hk
 unfold PS.next at hk
 by_cases cc:p.sd<(p.sm Ds).length
 ·rw [if_pos cc] at hk
  have wN:=List.mem_filter.1 (List.mem_of_getElem? hk)
  obtain ⟨d,hd⟩:∃ d,Ds[k]? = some d:=⟨_,List.getElem?_eq_getElem (pi.lt k wN.1)⟩
  have nl:k∉(p.lg Ds).take p.ld:=fun h=>by
   have:=(List.mem_filter.1 (List.mem_of_mem_take h)).2
   rw [this] at wN;simp at wN
  refine ⟨d,_,hd,pi.pos p.sd k hk,fun h=>?_,fun i=>?_,?_,?_,e2,?_⟩
  ·rcases h with h |h
   ·exact jq smn hk h
   ·exact nl h
  ·unfold PS.oM
   rw [Yq,Yr,gE cc]
   show (i∈(p.sm Ds).take (p.sd+1) ∨ i∈(p.lg Ds).take p.ld) ↔ _
   rw [List.take_add_one,hk,List.mem_append]
   simp
   constructor
   ·rintro ((h |h) |h)
    ·exact .inl (.inl h)
    ·exact .inr h
    ·exact .inl (.inr h)
   ·rintro ((h |h) |h)
    ·exact .inl (.inl h)
    ·exact .inr h
    ·exact .inl (.inr h)
  ·rw [gE cc];show p.sd+1+p.ld=_;omega
  ·rw [gE cc]
  ·rw [gE cc]
 ·rw [if_neg cc] at hk
  have wN:=List.mem_filter.1 (List.mem_of_getElem? hk)
  obtain ⟨d,hd⟩:∃ d,Ds[k]? = some d:=⟨_,List.getElem?_eq_getElem (pi.lt k wN.1)⟩
  have hl:d.h.l=true:=by have:=wN.2;rw [ig hd] at this;exact this
  have nl:k∉(p.sm Ds).take p.sd:=fun h=>by
   have:=(List.mem_filter.1 (List.mem_of_mem_take h)).2
   rw [ig hd,hl] at this;cases this
  refine ⟨d,_,hd,pi.lgp k d hd hl ((pi.mem k).1 wN.1),fun h=>?_,fun i=>?_,?_,?_,e2,?_⟩
  ·rcases h with h |h
   ·exact nl h
   ·exact jq lgn hk h
  ·unfold PS.oM
   rw [Yq,Yr,gG cc]
   show (i∈(p.sm Ds).take p.sd ∨ i∈(p.lg Ds).take (p.ld+1)) ↔ _
   rw [List.take_add_one,hk,List.mem_append]
   simp
   constructor
   ·rintro (h |h |h)
    ·exact .inl (.inl h)
    ·exact .inl (.inr h)
    ·exact .inr h
   ·rintro ((h |h) |h)
    ·exact .inl h
    ·exact .inr (.inl h)
    ·exact .inr (.inr h)
  ·rw [gG cc];show p.sd+(p.ld+1)=_;omega
  ·rw [gG cc]
  ·rw [gG cc]
set_option maxRecDepth 100000 in
theorem Dm {J:AH O} {Ds:List DO} {p:PS} {s:dE} {n:Nat} (g:DG Ds p s n) (pi:PI Ds p) (vS:Ds.length<=500) (hn:n<=10000) {a b c e d:SA} (h:s.At a b c e d) (hk:p.next Ds=none):Ok (KZ [.agg (s.cells a b c e d)] J) fun r=>(∃ s' a' b' c' e' d',r.1=.aB [.agg (dE.cells s' a' b' c' e' d'),.b false]/\dE.At s' a' b' c' e' d'/\DG Ds p s' (n+1))/\Ext J r.2:=by
 have gs:=g.st
 let s':dE:={s with m:={s.m with steps:=s.m.steps+1}}
 refine (gT (ts:=s'.ts) (s:=QP Mi KU CS) (rest:=[.b false]) s'.deep rfl ?_).mono fun q ⟨⟨vs,g1,g2⟩,g3⟩=>?_
 ·have ES:∀ (τ:AH O) (x:eY O),(τ.put (J.next+1) x).aa J.next=τ.aa J.next:=fun τ x=>aA (by omega)
  simp only [dE.cells]
  (unfold QP;refine kf ES ?_)
  generalize hJ:AH.put _ (J.next+1) _=J1
  have n1:J1.next=J.next+2:=by rw [<-hJ];rfl
  have b0:J1.aa J.next=some (.cells true 81 [.sl a s.m.l.length,.sl b s.m.now.length,.i .i64 s.m.top,.sl c s.m.mv.length,.i .i64 s.m.steps,.sl e s.cO.length,.sl d s.dn.length]):=by rw [<-hJ,ES];exact aH
  have b1:J1.aa (J.next+1)=some (.cells true 81 [.sl .nil 0,.sl .nil 0,.i .i64 0,.sl .nil 0,.i .i64 0,.sl .nil 0,.sl .nil 0]):=by rw [<-hJ];exact aH
  have E1:Ext J J1:=⟨by omega,fun b hb=>by rw [<-hJ];exact hU⟩
  clear hJ
  have nx:=g.next pi vS (J:=J1) h
  rw [hk] at nx
  simp only [dE.cells,Bc] at nx
  refine Ok.step nx fun q ⟨q1,q2⟩=>?_
  obtain ⟨rv,J2⟩:=q
  simp only at q1 q2
  subst q1
  have c0:=(q2.aa _ (by omega)).trans b0
  have c1:=(q2.aa _ (by omega)).trans b1
  have z:decide ((-1:Int)<0)=true:=rfl
  have w:IntKind.i64.wrap (s.m.steps+1)=s.m.steps+1:=cd (by omega)
  have u10:∀ (τ:AH O) (x:eY O),(τ.put J.next x).aa (J.next+1)=τ.aa (J.next+1):=fun τ x=>aA (by omega)
  refine tg z c0 w c1 (cj u10 ES) ?_
  have:=q2.next
  exact U.2 ⟨_,rfl,jO.im (dE.KO (s:=s') (a:=a) (b:=b) (c:=c) (e:=e) (d:=d) ⟨⟨h.m.l,h.m.now,h.m.mv⟩,h.cO,h.dn⟩) ⟨by simp only [aO];omega,fun b hb=>by
   rw [aA (by omega),aA (by omega),q2.aa b (by omega)];exact E1.aa b hb⟩⟩
 ·obtain ⟨a',b',c',e',d',rfl,g4⟩:=dE.un g2
  refine ⟨⟨s',a',b',c',e',d',g1,g4,g.m.steps _,g.cO,g.dn,?_,?_⟩,g3⟩
  ·show 0<=s.m.steps+1;omega
  ·show s.m.steps+1<=7000*((n+1:Nat):Int);omega
end Go.Abs.Tryz
namespace Go.Abs.Tryz
open Go Go.Abs
variable {O:Type}
set_option maxRecDepth 100000 in
theorem Dn {J:AH O} {Ds:List DO} {p:PS} {s:dE} {n:Nat} (g:DG Ds p s n) (pi:PI Ds p) (ok:∀ d∈Ds,d.ok) (ap:∀ (i j:Nat) (a b:DO),i<j->Ds[i]? = some a->Ds[j]? = some b->a.h.l=b.h.l->if a.h.l then a.at_≠b.at_ else a.at_+a.n<=b.at_) (vS:Ds.length<=500) (oN:∀ d∈Ds,d.n<=50) (Zi:∀ q:PS,PI Ds q->q.top<=100000) (pv:PV Ds) (hn:n<=100) {a b c e d:SA} (h:s.At a b c e d) {k:Nat} (hk:p.next Ds=some k):Ok (KZ [.agg (s.cells a b c e d)] J) fun r=>(∃ s' a' b' c' e' d',r.1=.aB [.agg (dE.cells s' a' b' c' e' d'),.b true]/\dE.At s' a' b' c' e' d'/\DG Ds ((p.tick Ds).scan Ds (jn Ds k)) s' (n+1))/\Ext J r.2:=by
 have gs:=g.st
 obtain ⟨dk,t,hd,SN,nsc,scE,sdE,e1,e2,e3⟩:=Dl pi hk
 have Ql:=List.mem_of_getElem? hd
 have hkl:=(List.getElem?_eq_some_iff.1 hd).1
 obtain ⟨dl,d1,d2,d3⟩:=g.dn
 obtain ⟨o,Uv,Wu,ho3,ho4,ho5,ho6⟩:=g.m.l k dk hd
 have hoP:=ho6 nsc
 have fw:=pi.bW
 have hPl:dk.P.length<=50:=by have:=oN dk Ql;unfold DO.n at this;omega
 have SM:=pi.tick hk
 have att:s.dn.length=dl.length:=by rw [d1,List.length_map]
 have pt:jn Ds k=dk.P:=by unfold jn;rw [hd]
 rw [pt]
 have ES:∀ (τ:AH O) (x:eY O),(τ.put (J.next+1) x).aa J.next=τ.aa J.next:=fun τ x=>aA (by omega)
 have main:Ok (QP Mi KU CS [.agg (s.cells a b c e d)] J) fun r=>∃ s':dE,DG Ds ((p.tick Ds).scan Ds dk.P) s' (n+1)/\∃ vs,r.1=.aB [.agg vs,.b true]/\jO J r.2 s'.ts vs:=by
  simp only [dE.cells]
  (unfold QP;refine kf ES ?_)
  generalize hJ:AH.put _ (J.next+1) _=J1
  have n1:J1.next=J.next+2:=by rw [<-hJ];rfl
  have b0:J1.aa J.next=some (.cells true 81 [.sl a s.m.l.length,.sl b s.m.now.length,.i .i64 s.m.top,.sl c s.m.mv.length,.i .i64 s.m.steps,.sl e s.cO.length,.sl d s.dn.length]):=by rw [<-hJ,ES];exact aH
  have b1:J1.aa (J.next+1)=some (.cells true 81 [.sl .nil 0,.sl .nil 0,.i .i64 0,.sl .nil 0,.i .i64 0,.sl .nil 0,.sl .nil 0]):=by rw [<-hJ];exact aH
  have E1:Ext J J1:=⟨by omega,fun b hb=>by rw [<-hJ];exact hU⟩
  clear hJ
  have nx:=g.next pi vS (J:=J1) h
  rw [hk] at nx
  simp only [dE.cells,Bc] at nx
  refine Ok.step nx fun q ⟨q1,q2⟩=>?_
  obtain ⟨rv,J2⟩:=q
  simp only at q1 q2
  subst q1
  have n2:=q2.next
  have c0:=(q2.aa _ (by omega)).trans b0
  have c1:=(q2.aa _ (by omega)).trans b1
  have E2:=E1.trans q2
  have z:decide ((k:Int)<0)=false:=decide_eq_false (by omega)
  have rD:∀ J:AH O,J.bT d s.dn.length 1=some (s.dn.map (AV.i .i64)):=fun J=>(h.dn.Vw O J).bT
  have v0:∀ (τ:AH O) (x:eY O),(τ.put J2.next x).aa J.next=τ.aa J.next:=fun τ x=>aA (by omega)
  have bl1:Nat.ble ((0+s.dn.length)*9) 35184372088832=true:=Nat.ble_eq_true_of_le (by omega)
  have bl2:Nat.ble ((s.dn.length+1)*9) 35184372088832=true:=Nat.ble_eq_true_of_le (by omega)
  have bl3:decide (s.dn.length*9<=35184372088832)=true:=decide_eq_true (by omega)
  have bl4:decide ((s.dn.length+1)*9<=35184372088832)=true:=decide_eq_true (by omega)
  refine tg z v0 c0 rD (cj bl3 (cj bl4 (cj @iN (cj @dd (cj @bR @cI))))) ?_
  generalize hJ:AH.put _ (J2.next+1+1) _=J3
  have n3:J3.next=J2.next+4:=by rw [<-hJ];rfl
  have f0:=(show J3.aa J.next=J2.aa J.next by rw [<-hJ];((try simp only [aO] at *);simp -implicitDefEqProofs (disch:=(first |omega |rfl |assumption |(simp only [aO];first |omega |assumption))) only [aH,aA,bA,au])).trans c0
  have f1:=(show J3.aa (J.next+1)=J2.aa (J.next+1) by rw [<-hJ];((try simp only [aO] at *);simp -implicitDefEqProofs (disch:=(first |omega |rfl |assumption |(simp only [aO];first |omega |assumption))) only [aH,aA,bA,au])).trans c1
  have fD:J3.aa (J2.next+1)=some (.cells true 3 (s.dn.map (.i .i64))):=by rw [<-hJ];((try simp only [aO] at *);simp -implicitDefEqProofs (disch:=(first |omega |rfl |assumption |(simp only [aO];first |omega |assumption))) only [aH,aA,bA,au])
  have E3:Ext J J3:=⟨by omega,fun b hb=>by rw [<-hJ];((try simp only [aO] at *);simp -implicitDefEqProofs (disch:=(first |omega |rfl |assumption |(simp only [aO];first |omega |assumption))) only [aH,aA,bA,au]);exact E2.aa b hb⟩
  clear hJ
  refine Ok.step (jf (nid:=J2.next+1+1+1) (aY.new (J:=J3) (n:=s.dn.length) (es:=1) (by simp) fD (by omega)) (by simp only [SA.bk,List.mem_singleton];omega) (by omega) (m:=1) (new:=[AV.i .i64 _]) rfl) fun q ⟨aD,r1,r2,r3,r4,r5⟩=>?_
  obtain ⟨q,J4⟩:=q
  simp only at r1 r2 r3 r4
  subst r1
  have r4':∀ b,b≠J2.next+3->b≠J2.next+1->J4.aa b=J3.aa b:=fun b h1 h2=>r4 b (by omega) (by simp only [SA.bk,List.mem_singleton];omega)
  have Tb:∀ b∈SA.bk aD,b=J2.next+3:=fun b hb=>by have:=r5 b hb;omega
  have g0:=(r4' _ (by omega) (by omega)).trans f0
  have g1:=(r4' _ (by omega) (by omega)).trans f1
  have E4:Ext J J4:=⟨by have:=E3.next;omega,fun b hb=>(r4' b (by omega) (by omega)).trans (E3.aa b hb)⟩
  refine kf g0 ?_
  generalize hJ:AH.put J4 J.next _=J5
  have n5:J5.next=J2.next+4:=by rw [<-hJ];show J4.next=_;omega
  have k0:J5.aa J.next=some (.cells true 81 [.sl a s.m.l.length,.sl b s.m.now.length,.i .i64 s.m.top,.sl c s.m.mv.length,.i .i64 s.m.steps,.sl e s.cO.length,.sl aD (s.dn.length+1)]):=by rw [<-hJ];exact aH
  have k1:=(show J5.aa (J.next+1)=J4.aa (J.next+1) by rw [<-hJ];exact aA (by omega)).trans g1
  have oD:aY J5 3 1 aD (s.dn.length+1) (s.dn.map (.i .i64)++[.i .i64 (k:Int)]):=r2.of (by rw [<-hJ];exact Nat.le_refl _) fun b hb=>by rw [<-hJ];exact aA (by have:=Tb b hb;omega)
  have E5:Ext J J5:=⟨by have:=E4.next;omega,fun b hb=>by rw [<-hJ,aA (by omega)];exact E4.aa b hb⟩
  have ne5:J4.next=J5.next:=by rw [<-hJ];rfl
  clear hJ
  try rw [ne5]
  have v5:∀ (τ:AH O) (x:eY O),(τ.put J5.next x).aa J.next=τ.aa J.next:=fun τ x=>aA (by omega)
  have v6:∀ (τ:AH O) (x:eY O),(τ.put (J5.next+1) x).aa J.next=τ.aa J.next:=fun τ x=>aA (by omega)
  have v7:∀ (τ:AH O),(τ.kill J5.next).aa J.next=τ.aa J.next:=fun τ=>bA (by omega)
  obtain ⟨bb,oo,cP,cR,rfl,iP,iR,ld⟩:=h.m.l.obj Uv
  have l5:=fun J:AH O=>(ld O J).2.2.2.2.2.1
  have l4:=fun J:AH O=>(ld O J).2.2.2.2.1
  rw [hoP] at iP l5
  have rP:∀ J:AH O,J.bT cP dk.P.length 1=some (dk.P.map (AV.i .u64)):=fun J=>(iP.Vw O J).bT
  have i0:decide ((0:Int)<=(k:Int))=true:=decide_eq_true (by omega)
  have i1:decide ((k:Int)<(s.m.l.length:Int))=true:=decide_eq_true (by rw [g.m.len.1];omega)
  have bl5:decide (dk.P.length*9<=35184372088832)=true:=decide_eq_true (by omega)
  simp -implicitDefEqProofs only [v5,k0,i0,i1,Bool.and_true,SA.ref,Int.toNat_natCast,l5,rP,bl5,iN,dd,bR,cI,v6,v7,l4,Nat.reduceAdd,Nat.reduceMul,Nat.reduceLT,Int.reduceToNat,Int.reduceAdd,Int.reduceSub,Int.reduceMul,eA,dK,dL,dM,dN,dO,dQ,dS,cM,Nat.reduceLeDiff,decide_true,decide_false]
  have a1:IntKind.i64.wrap (s.m.steps+3)=s.m.steps+3:=cd (by omega)
  have a2:IntKind.i64.wrap (6*(dk.P.length:Int))=6*(dk.P.length:Int):=cd (by omega)
  have a3:IntKind.i64.wrap (s.m.steps+3+6*(dk.P.length:Int))=s.m.steps+3+6*(dk.P.length:Int):=cd (by omega)
  have a4:IntKind.i64.wrap (s.m.steps+3+6*(dk.P.length:Int)+1)=s.m.steps+3+6*(dk.P.length:Int)+1:=cd (by omega)
  have a5:IntKind.i64.wrap (s.m.steps+1)=s.m.steps+1:=cd (by omega)
  have a6:IntKind.i64.wrap (2*(dk.P.length:Int))=2*(dk.P.length:Int):=cd (by omega)
  have a7:IntKind.i64.wrap (s.m.steps+1+2*(dk.P.length:Int))=s.m.steps+1+2*(dk.P.length:Int):=cd (by omega)
  rw [a1,a2,a3,a4,a5,a6,a7]
  clear a1 a2 a3 a4 a5 a6 a7
  cases C4:o.h.l
  case' true=>
   refine zE ?_
   generalize Db:s.m.steps+3+6*(dk.P.length:Int)+1=HH
   have ajR:s.m.steps<=HH/\HH<=s.m.steps+400:=by omega
  case' false=>
   refine zE ?_
   generalize Db:s.m.steps+1+2*(dk.P.length:Int)=HH
   have ajR:s.m.steps<=HH/\HH<=s.m.steps+400:=by omega
  all_goals
   generalize hJ:AH.put _ J.next _=J6
   have n6:J6.next=J5.next+2:=by rw [<-hJ];rfl
   have m0:J6.aa J.next=some (.cells true 81 [.sl (.loc bb oo 8) s.m.l.length,.sl b s.m.now.length,.i .i64 s.m.top,.sl c s.m.mv.length,.i .i64 HH,.sl e s.cO.length,.sl aD (s.dn.length+1)]):=by rw [<-hJ];exact aH
   have m1:=(show J6.aa (J.next+1)=J5.aa (J.next+1) by rw [<-hJ];((try simp only [aO] at *);simp -implicitDefEqProofs (disch:=(first |omega |rfl |assumption |(simp only [aO];first |omega |assumption))) only [aH,aA,bA,au])).trans k1
   have mp:J6.aa (J5.next+1)=some (.cells true 33 (dk.P.map (.i .u64))):=by rw [<-hJ];((try simp only [aO] at *);simp -implicitDefEqProofs (disch:=(first |omega |rfl |assumption |(simp only [aO];first |omega |assumption))) only [aH,aA,bA,au])
   have E6:Ext J J6:=⟨by omega,fun b hb=>by rw [<-hJ];((try simp only [aO] at *);simp -implicitDefEqProofs (disch:=(first |omega |rfl |assumption |(simp only [aO];first |omega |assumption))) only [aH,aA,bA,au]);exact E5.aa b hb⟩
   have oD6:aY J6 3 1 aD (s.dn.length+1) (s.dn.map (.i .i64)++[.i .i64 (k:Int)]):=oD.of (by omega) fun b hb=>by
    have:=Tb b hb
    rw [<-hJ];((try simp only [aO] at *);simp -implicitDefEqProofs (disch:=(first |omega |rfl |assumption |(simp only [aO];first |omega |assumption))) only [aH,aA,bA,au])
   clear hJ
   have dmt:DM Ds (p.tick Ds) ((p.tick Ds).oM Ds) {s.m with steps:=HH}:=by
    refine ⟨g.m.len,fun i di hi=>?_,fun i di hi=>?_,by rw [e3];exact g.m.top,by rw [e2];exact g.m.mv⟩
    ·obtain ⟨oi,x1,x2,x3,x4,x5,x6⟩:=g.m.l i di hi
     refine ⟨oi,x1,by rw [e1];exact x2,x3,x4,by rw [e1];exact x5,fun hh=>x6 fun q=>hh ((scE i).2 (.inl q))⟩
    ·rw [e1];exact g.m.nw i di hi
   have sc:=KY (J:=J6) (sb:=J.next) (pb:=J5.next+1) (s:=⟨{s.m with steps:=HH},s.cO,s.dn++[(k:Int)]⟩) (a:=.loc bb oo 8) (b:=b) (c:=c) (e:=e) (d:=aD) dmt ⟨⟨h.m.l,h.m.now,h.m.mv⟩,h.cO⟩ g.cO SM (fun i hi=>Ol SM hi) ok ap vS oN Zi pv Ql (by show 0<=HH/\HH<=800000;omega) (by rw [m0];simp only [dE.cells,List.length_append];rfl) mp (by omega) (by omega) (by omega) (h:=J) rfl
   refine Ok.step sc ?_
   rintro _ ⟨J7,rfl,s8,a8,b8,c8,P8,y1,y2,y3,y4,y5,y6,y7,y8,y9,ch⟩
   obtain ⟨o8,z1,z2,z3,z4,z5,z6⟩:=y4.l k dk hd
   obtain ⟨bb8,oo8,cP8,cR8,rfl,iP8,iR8,QQ⟩:=y3.1.l.obj z1
   have y2':s8.dn.length=s.dn.length+1:=by rw [y2];simp
   simp only [dE.cells,y2'] at y6
   have n7:=ch.next
   have p1:=(ch.aa (J.next+1) (by omega) (by simp;omega)).trans m1
   have E7:Ext J J7:=⟨by omega,fun b hb=>(ch.aa b (by omega) (by simp;omega)).trans (E6.aa b hb)⟩
   have oD7:=oD6.of n7 fun b hb=>ch.aa b (by have:=Tb b hb;omega) (by have:=Tb b hb;simp;omega)
   have w0:=fun J:AH O=>(QQ O J).1
   have w1:=fun J:AH O=>(QQ O J).2.1
   have w2:=fun J:AH O=>(QQ O J).2.2.1
   have w3:=fun J:AH O=>(QQ O J).2.2.2.1
   have w4:=fun J:AH O=>(QQ O J).2.2.2.2.1
   have w5:=fun J:AH O=>(QQ O J).2.2.2.2.2.1
   have w6:=fun J:AH O=>(QQ O J).2.2.2.2.2.2.1
   have w7:=fun J:AH O=>(QQ O J).2.2.2.2.2.2.2
   obtain ⟨vs,v1,v2,v3⟩:=y3.1.l.all
   have i2:decide ((k:Int)<(s8.m.l.length:Int))=true:=decide_eq_true (by rw [y4.len.1];omega)
   have bl6:decide (s8.m.l.length*97<=35184372088832)=true:=decide_eq_true (by rw [y4.len.1];omega)
   have ib:(k*8+8).ble vs.length=true:=by rw [v1,y4.len.1];exact Nat.ble_eq_true_of_le (by omega)
   refine rl y6 i2 w0 w1 (cj w2 (cj w3 (cj w4 (cj w5 (cj w6 (cj w7 (cj v3 (cj bl6 (cj ib (cj p1 (cj @iN (cj @dd (cj @bR (cj @cI @bA)))))))))))))) ?_
   generalize hJ:AH.put _ (J.next+1) _=J9
   have n9:J9.next=J7.next+3:=by rw [<-hJ];rfl
   have bL:J9.aa (J7.next+1+1)=some (.cells true Dk (bQ vs (k*8) [.i .i64 (o8.h.p:Int),.i .i64 (o8.h.r:Int),.i .i64 (o8.h.s:Int),.i .i64 (o8.h.g:Int),.b o8.h.l,.sl (.loc (.n (J5.next+1)) 0 1) dk.P.length,.sl cR8 o8.R.length,.i .u64 o8.word])):=by rw [<-hJ];((try simp only [aO] at *);simp -implicitDefEqProofs (disch:=(first |omega |rfl |assumption |(simp only [aO];first |omega |assumption))) only [aH,aA,bA,au])
   have bP:J9.aa (J5.next+1)=some (.cells true qj (P8.map (.i .u64))):=by rw [<-hJ];((try simp only [aO] at *);simp -implicitDefEqProofs (disch:=(first |omega |rfl |assumption |(simp only [aO];first |omega |assumption))) only [aH,aA,bA,au]);exact y7
   have E9:Ext J J9:=⟨by omega,fun b hb=>by rw [<-hJ];((try simp only [aO] at *);simp -implicitDefEqProofs (disch:=(first |omega |rfl |assumption |(simp only [aO];first |omega |assumption))) only [aH,aA,bA,au]);exact E7.aa b hb⟩
   have oD9:aY J9 3 1 aD (s.dn.length+1) (s.dn.map (.i .i64)++[.i .i64 (k:Int)]):=oD7.of (by omega) fun b hb=>by
    have:=Tb b hb
    rw [<-hJ];((try simp only [aO] at *);simp -implicitDefEqProofs (disch:=(first |omega |rfl |assumption |(simp only [aO];first |omega |assumption))) only [aH,aA,bA,au])
   clear hJ
   have S5:Ow J9 (gl P8) (.sl (.loc (.n (J5.next+1)) 0 1) dk.P.length) [J5.next+1]:=by
    have:=Ow.leaves (J:=J9) (el:=qj) (es:=1) (n:=P8.length) (a:=.loc (.n (J5.next+1)) 0 1) (xs:=P8.map (.i .u64)) (aY.new (by simp) bP (by omega)) (eI _)
    rw [<-dA] at this
    unfold gl
    rw [y5] at this ⊢
    exact this
   have KR:dy J9 (OV.row {o8 with P:=P8}) [.i .i64 (o8.h.p:Int),.i .i64 (o8.h.r:Int),.i .i64 (o8.h.s:Int),.i .i64 (o8.h.g:Int),.b o8.h.l,.sl (.loc (.n (J5.next+1)) 0 1) dk.P.length,.sl cR8 o8.R.length,.i .u64 o8.word] [J5.next+1]:=by
    have h5:=dy.app (dy.im (J:=J9) (fF.EN (vs:=o8.h.av) rfl)) (dy.cons S5 (dy.cons (.im (ju iR8)) (dy.im (J:=J9) (fF.EN (vs:=[.i .u64 o8.word]) rfl)) (by simp)) (by simp)) (by simp)
    simpa [OV.row,Hd.av] using h5
   have kl8:k<s8.m.l.length:=by rw [y4.len.1];exact hkl
   have all:=tC v2 kl8 KR
   have slL:Ow J9 (.sl Dk 8 s8.m.l.length ((s8.m.l.set k {o8 with P:=P8}).flatMap OV.row)) (.sl (.loc (.n (J7.next+1+1)) 0 8) s8.m.l.length) ([J7.next+1+1]++[J5.next+1]):=
    .sl (aY.new (by rw [kK (by rw [v1,y4.len.1];show k*8+8<=_;omega),v1]) bL (by omega)).p all fun b hb hm=>by
     simp [SA.bk] at hb hm;omega
   have slD:Ow J9 (nX s8.dn) (.sl aD (s.dn.length+1)) (SA.bk aD):=by
    have:=Ow.leaves (J:=J9) (el:=KS) (es:=1) (n:=s.dn.length+1) (a:=aD) (xs:=(s.dn++[(k:Int)]).map (.i .i64)) (by rw [List.map_append];exact oD9) (eI _)
    rw [<-dA] at this
    unfold nX
    rw [y2,List.length_append]
    exact this
   have mo:=iV (Ds:=Ds) (l:=dk.P) (p:=p.tick Ds)
   have o1:dy J9 (dE.ts ⟨{s8.m with l:=s8.m.l.set k {o8 with P:=P8}},s8.cO,s8.dn⟩) [.sl (.loc (.n (J7.next+1+1)) 0 8) s8.m.l.length,.sl b8 s8.m.now.length,.i .i64 s8.m.top,.sl c8 s8.m.mv.length,.i .i64 s8.m.steps,.sl e s8.cO.length,.sl aD (s.dn.length+1)] (([J7.next+1+1]++[J5.next+1])++([]++([]++([]++([]++([]++(SA.bk aD++[]))))))):=by
    unfold dE.ts ft.ts
    have e4:(s8.m.l.set k {o8 with P:=P8}).length=s8.m.l.length:=List.length_set
    show dy J9 [.sl Dk 8 (s8.m.l.set k {o8 with P:=P8}).length ((s8.m.l.set k {o8 with P:=P8}).flatMap OV.row),gl s8.m.now,.lf (.i .i64 s8.m.top),nX s8.m.mv,.lf (.i .i64 s8.m.steps),.sl Dk 8 s8.cO.length (s8.cO.flatMap OV.row),nX s8.dn] _ _
    rw [e4]
    refine .cons slL (.cons (.im (ju y3.1.now)) (.cons (.im (.lf rfl)) (.cons (.im (qt y3.1.mv)) (.cons (.im (.lf rfl)) (.cons (.im (y3.2.im _)) (.cons slD .nil (by simp)) (by simp)) (by simp)) (by simp)) (by simp)) (by simp)) ?_
    intro x hx hm
    simp at hx hm
    have:=Tb x hm
    omega
   refine U.2 ⟨⟨{s8.m with l:=s8.m.l.set k {o8 with P:=P8}},s8.cO,s8.dn⟩,⟨⟨?_,fun i di hi=>?_,y4.nw,y4.top,y4.mv⟩,y1.trans g.cO,⟨dl++[k],?_,?_,fun i=>?_⟩,?_,?_⟩,_,rfl,E9,_,o1,fun b hb=>?_⟩
   ·simp [y4.len]
   ·show ∃ o,(s8.m.l.set k {o8 with P:=P8})[i]? = some o/\_
    by_cases cc:i=k
    ·subst cc
     rw [hd] at hi;cases hi
     refine ⟨{o8 with P:=P8},by rw [List.getElem?_set,if_pos rfl,if_pos kl8],z2,y5,z4,z5,fun hh=>absurd ?_ hh⟩
     exact (mo.oM SM i).2 ((scE i).2 (.inr rfl))
    ·obtain ⟨oi,x1,x2,x3,x4,x5,x6⟩:=y4.l i di hi
     exact ⟨oi,by rw [List.getElem?_set,if_neg (fun e=>cc e.symm)];exact x1,x2,x3,x4,x5,fun hh=>x6 fun q=>hh ((mo.oM SM i).2 q)⟩
   ·show s8.dn=_
    rw [y2,d1,List.map_append];rfl
   ·rw [List.length_append,d2,mo.sd,mo.ld,sdE];rfl
   ·rw [mo.oM SM i,scE i,List.mem_append,d3 i];simp
   ·show 0<=s8.m.steps
    have:HH<=s8.m.steps:=y8
    omega
   ·show s8.m.steps<=7000*((n+1:Nat):Int)
    have:s8.m.steps<=HH+120*dk.P.length:=y9
    omega
   ·simp at hb
    rcases hb with hb |hb |hb
    ·omega
    ·omega
    ·have:=Tb b hb;omega
 obtain ⟨⟨rv,JF⟩,er,s',dg,vs,ev,nw⟩:=main
 simp only at ev nw
 subst ev
 refine (gT (ts:=s'.ts) (s:=QP Mi KU CS) (rest:=[.b true]) s'.deep rfl ⟨_,er,vs,rfl,nw⟩).mono fun q ⟨⟨lA,g1,g2⟩,g3⟩=>?_
 obtain ⟨a',b',c',e',d',rfl,g4⟩:=dE.un g2
 exact ⟨⟨s',a',b',c',e',d',g1,g4,dg⟩,g3⟩
end Go.Abs.Tryz
namespace Go.Abs.Tryz
open Go Go.Abs
variable {O:Type}
mutual
theorem EU:∀ (t:TV) (d:Nat),t.deep d->t.deep (d+1)
 |.lf _,_,_=>trivial
 |.sl _ _ _ cs,0,h=>h.elim
 |.sl _ _ _ cs,d+1,h=>fun t ht=>Bd cs d h t ht
theorem Bd:∀ (cs:List TV) (d:Nat),(∀ t∈cs,t.deep d)->∀ t∈cs,t.deep (d+1)
 |[],_,_=>fun t ht=>by simp at ht
 |c::cs,d,h=>fun t ht=>by
  have h1:=EU c d (h c (by simp))
  have h2:=Bd cs d (fun u hu=>h u (by simp [hu]))
  rcases List.mem_cons.1 ht with e |ht
  ·rw [e];exact h1
  ·exact h2 t ht
end
theorem dE.ER (s:dE):∀ t∈s.ts,t.deep 6:=fun t ht=>EU t 5 (s.deep t ht)
theorem Ga {J:AH O} {a:SA} {Ds:List DO} (ha:ss a (Ds.map DO.ov)) (hn:Ds.length<=500):Ok (qsy [.sl a Ds.length] J) fun q=>(∃ s a' b c e d,q.1=.agg (dE.cells s a' b c e d)/\dE.At s a' b c e d/\DG Ds PS.zero s 0)/\Ext J q.2:=by
 let s':dE:=⟨ft.new (Ds.map DO.ov),Ds.map DO.ov,[]⟩
 have e0:Ds.length=(Ds.map DO.ov).length:=by simp
 rw [e0]
 refine (yY (ts:=s'.ts) (s:=Zl Vx) s'.ER ?_).mono fun q ⟨⟨vs,g1,g2⟩,g3⟩=>?_
 ·(unfold Zl;refine zE ?_)
  generalize hJ:AH.put _ J.next _=J1
  have n1:J1.next=J.next+1:=by rw [<-hJ];rfl
  have b1:J1.aa J.next=some (.cells true 81 [.sl .nil 0,.sl .nil 0,.i .i64 0,.sl .nil 0,.i .i64 0,.sl .nil 0,.sl .nil 0]):=by rw [<-hJ];exact aH
  have E1:Ext J J1:=⟨by omega,fun b hb=>by rw [<-hJ];exact hU⟩
  clear hJ
  have nw:=GF (J:=J1) ha (by simp;omega)
  refine Ok.step nw fun q ⟨⟨a2,b2,c2,g1,g2⟩,g3⟩=>?_
  obtain ⟨rv,J2⟩:=q
  simp only at g1 g3
  subst g1
  have b2':=(g3.aa _ (by omega)).trans b1
  simp only [ft.cells]
  refine kf b2' ?_
  have:=g3.next
  exact U.2 ⟨_,rfl,jO.im (dE.KO (s:=s') (a:=a2) (b:=b2) (c:=c2) (e:=a) (d:=.nil) ⟨g2,ha,Row.nil (ku .i64)⟩) ⟨by simp only [aO];omega,fun b hb=>by rw [aA (by omega),g3.aa b (by omega)];exact E1.aa b hb⟩⟩
 ·obtain ⟨a',b',c',e',d',rfl,g4⟩:=dE.un g2
  refine ⟨⟨s',a',b',c',e',d',g1,g4,DM.new Ds _,rfl,⟨[],rfl,rfl,fun i=>?_⟩,Int.le_refl _,Int.le_refl _⟩,g3⟩
  unfold PS.oM
  simp [PS.zero,PS.sm,PS.lg]
theorem Gb {J:AH O} {Ds:List DO} {p:PS} {s:dE} {n0:Nat} (g:DG Ds p s n0) (pi:PI Ds p) (ok:∀ d∈Ds,d.ok) (ap:∀ (i j:Nat) (a b:DO),i<j->Ds[i]? = some a->Ds[j]? = some b->a.h.l=b.h.l->if a.h.l then a.at_≠b.at_ else a.at_+a.n<=b.at_) (vS:Ds.length<=20) (oN:∀ d∈Ds,d.n<=50) (Zi:∀ q:PS,PI Ds q->q.top<=100000) (pv:PV Ds) (Cd:n0<=50) {a b c e d:SA} (h:s.At a b c e d):
  Ok (quq [.agg (s.cells a b c e d)] J) fun r=>(∃ n s' a' b' c' e' d',(PS.run Ds n p).step Ds=none/\r.1=.agg (dE.cells s' a' b' c' e' d')/\dE.At s' a' b' c' e' d'/\DG Ds (PS.run Ds n p) s' (n0+Ds.length+1))/\Ext J r.2:=by
 have ES:∀ (τ:AH O) (x:eY O),(τ.put (J.next+1) x).aa J.next=τ.aa J.next:=fun τ x=>aA (by omega)
 have main:Ok (VA KZ [.agg (s.cells a b c e d)] J) fun r=>∃ n s' a' b' c' e' d',(PS.run Ds n p).step Ds=none/\r.1=.agg (dE.cells s' a' b' c' e' d')/\dE.At s' a' b' c' e' d'/\DG Ds (PS.run Ds n p) s' (n0+Ds.length+1)/\Ext J r.2:=by
  simp only [dE.cells]
  (unfold VA;refine zE ?_)
  generalize hJ:AH.put _ (J.next+1) _=J1
  have n1:J1.next=J.next+2:=by rw [<-hJ];rfl
  have b0:J1.aa J.next=some (.cells true 81 (s.cells a b c e d)):=by rw [<-hJ,ES];exact aH
  have b1:J1.aa (J.next+1)=some (.cells true 81 [.sl .nil 0,.sl .nil 0,.i .i64 0,.sl .nil 0,.i .i64 0,.sl .nil 0,.sl .nil 0]):=by rw [<-hJ];exact aH
  have E1:Ext J J1:=⟨by omega,fun b hb=>by rw [<-hJ];exact hU⟩
  clear hJ
  have lp:Ok (bC (Zm J KZ) ([.b true],J1)) fun x=>∃ n J' s' a' b' c' e' d',x=([],J')/\(PS.run Ds n p).step Ds=none/\dE.At s' a' b' c' e' d'/\DG Ds (PS.run Ds n p) s' (n0+Ds.length+1)/\J'.aa J.next=some (.cells true 81 (dE.cells s' a' b' c' e' d'))/\J'.aa (J.next+1)=J1.aa (J.next+1)/\Ext J J':=by
   refine Ok.loop (fun m x=>∃ n J' s' a' b' c' e' d' K0,x=([.b K0],J')/\PI Ds (PS.run Ds n p)/\(K0=false->(PS.run Ds n p).step Ds=none)/\dE.At s' a' b' c' e' d'/\DG Ds (PS.run Ds n p) s' (n0+n+if K0 then 0 else 1)/\J'.aa J.next=some (.cells true 81 (dE.cells s' a' b' c' e' d'))/\J'.aa (J.next+1)=J1.aa (J.next+1)/\Ext J J'/\J1.next<=J'.next/\(PS.run Ds n p).sd+(PS.run Ds n p).ld=p.sd+p.ld+n/\m=Ds.length - ((PS.run Ds n p).sd+(PS.run Ds n p).ld)+if K0 then 1 else 0) ?_ (Ds.length - (p.sd+p.ld)+1) _ ⟨0,J1,s,a,b,c,e,d,true,rfl,pi,(fun q=>by cases q),h,g,b0,rfl,E1,Nat.le_refl _,rfl,rfl⟩
   rintro m _ ⟨n,J2,s2,a2,b2,c2,e2,d2,K0,rfl,VB,Vz,Zn,Mj,k0,k1,E2,l2,sm2,rfl⟩
   have fw:=VB.bW
   have nl:n<=Ds.length:=by omega
   cases K0 with
   |false=>
    (unfold Zm;refine zE ?_)
    refine U.2 ⟨n,J2,s2,a2,b2,c2,e2,d2,rfl,Vz rfl,Zn,⟨Mj.m,Mj.cO,Mj.dn,Mj.st.1,?_⟩,k0,k1,E2⟩
    have:=Mj.st.2
    simp only [Bool.false_eq_true,if_false] at this
    omega
   |true=>
    simp only [if_true] at Mj
    have fin:∀ (rb:Bool) (q:PS) (n':Nat),PS.run Ds n' p=q->PI Ds q->(rb=false->q.step Ds=none)->(q.sd+q.ld=p.sd+p.ld+n')->(Ds.length - (q.sd+q.ld)+(if rb then 1 else 0)<Ds.length - ((PS.run Ds n p).sd+(PS.run Ds n p).ld)+1)->(Ok (KZ [.agg (s2.cells a2 b2 c2 e2 d2)] J2) fun r=>(∃ s' a' b' c' e' d',r.1=.aB [.agg (dE.cells s' a' b' c' e' d'),.b rb]/\dE.At s' a' b' c' e' d'/\DG Ds q s' (n0+n'+if rb then 0 else 1))/\Ext J2 r.2)->
      Ok (Zm J KZ ([.b true],J2)) fun r=>match r with
       |.inl x=>∃ m,m<Ds.length - ((PS.run Ds n p).sd+(PS.run Ds n p).ld)+(if true then 1 else 0)/\∃ n J' s' a' b' c' e' d' K0,x=([.b K0],J')/\PI Ds (PS.run Ds n p)/\(K0=false->(PS.run Ds n p).step Ds=none)/\dE.At s' a' b' c' e' d'/\DG Ds (PS.run Ds n p) s' (n0+n+if K0 then 0 else 1)/\J'.aa J.next=some (.cells true 81 (dE.cells s' a' b' c' e' d'))/\J'.aa (J.next+1)=J1.aa (J.next+1)/\Ext J J'/\J1.next<=J'.next/\(PS.run Ds n p).sd+(PS.run Ds n p).ld=p.sd+p.ld+n/\m=Ds.length - ((PS.run Ds n p).sd+(PS.run Ds n p).ld)+if K0 then 1 else 0
       |.inr x=>∃ n J' s' a' b' c' e' d',x=([],J')/\(PS.run Ds n p).step Ds=none/\dE.At s' a' b' c' e' d'/\DG Ds (PS.run Ds n p) s' (n0+Ds.length+1)/\J'.aa J.next=some (.cells true 81 (dE.cells s' a' b' c' e' d'))/\J'.aa (J.next+1)=J1.aa (J.next+1)/\Ext J J':=by
     intro rb q n' hq piq stq sq lq pJ
     simp only [dE.cells] at k0 pJ
     (unfold Zm;refine kf k0 ?_)
     refine Ok.step pJ fun r ⟨⟨s3,a3,b3,c3,e3,d3,g1,YL,YM⟩,g3⟩=>?_
     obtain ⟨rv,J3⟩:=r
     simp only at g1 g3
     subst g1
     have k0':=(g3.aa J.next (by omega)).trans k0
     refine kf k0' ?_
     refine U.2 ⟨_,lq,n',_,s3,a3,b3,c3,e3,d3,rb,rfl,by rw [hq];exact piq,by rw [hq];exact stq,YL,by rw [hq];exact YM,aH,?_,?_,?_,by rw [hq];exact sq,by rw [hq]⟩
     ·rw [aA (by omega),g3.aa _ (by omega)];exact k1
     ·exact ⟨by have:=E2.next;have:=g3.next;show J.next<=J3.next;omega,fun b hb=>by rw [aA (by omega),g3.aa b (by have:=E2.next;omega)];exact E2.aa b hb⟩
     ·have:=g3.next
      show J1.next<=J3.next;omega
    cases vn:(PS.run Ds n p).next Ds with
    |none=>
     have jD:(PS.run Ds n p).step Ds=none:=by unfold PS.step;rw [vn];rfl
     refine (fin false (PS.run Ds n p) n rfl VB (fun _=>jD) sm2 (by simp) ?_).mono fun r hr=>by cases r<;>exact hr
     exact Dm Mj VB (by omega) (by omega) Zn vn
    |some k=>
     have jD:(PS.run Ds n p).step Ds=some (((PS.run Ds n p).tick Ds).scan Ds (jn Ds k)):=by unfold PS.step;rw [vn];rfl
     have rs:=u0 jD
     have ls:=xy VB jD
     have piq:=VB.step jD
     have fwq:=piq.bW
     refine (fin true _ (n+1) rs piq (fun q=>by cases q) (by omega) (by simp;omega) ?_).mono fun r hr=>by cases r<;>exact hr
     exact Dn Mj VB ok ap (by omega) oN Zi pv (by omega) Zn vn
  refine Ok.step lp ?_
  rintro _ ⟨n,J2,s2,a2,b2,c2,e2,d2,rfl,Vz,Zn,Mj,k0,k1,E2⟩
  have k1':=k1.trans b1
  simp only [dE.cells] at k0
  refine Hr k0 k1' ?_
  refine U.2 ⟨n,s2,a2,b2,c2,e2,d2,Vz,rfl,Zn,Mj,⟨E2.next,fun b hb=>by rw [aA (by omega)];exact E2.aa b hb⟩⟩
 obtain ⟨⟨rv,JF⟩,er,n,s',a',b',c',e',d',st,ev,at',dg,E⟩:=main
 simp only at ev E
 subst ev
 refine (yY (ts:=s'.ts) (s:=VA KZ) s'.ER ⟨_,er,_,rfl,jO.im (dE.KO at') E⟩).mono fun q ⟨⟨lA,g1,g2⟩,g3⟩=>?_
 obtain ⟨Wk,b'',c'',e'',d'',rfl,g4⟩:=dE.un g2
 exact ⟨⟨n,s',Wk,b'',c'',e'',d'',st,g1,g4,dg⟩,g3⟩
end Go.Abs.Tryz
