/-
  AbsSl: slices in proofs about what is run: reading, appending, writing; what is never written again.
-/
import Derived.Test.YtncohicmiihjiaaGreatAbsSim
import Derived.Test.YtncohicmiihjiaaGreatAbsFrz
set_option linter.unusedVariables false
set_option linter.unusedSimpArgs false
set_option linter.constructorNameAsVariable false
namespace Go.Abs
open Go
variable {O:Type}
structure ei (L:List Nat) (J J':AH O):Prop where
 next:J.next<=J'.next
 aa:∀ b,b<J.next->b∉L->J'.aa b=J.aa b
theorem ei.refl (L:List Nat) (J:AH O):ei L J J:=⟨Nat.le_refl _,fun _ _ _=>rfl⟩
theorem ei.trans {L:List Nat} {J J' nS:AH O} (h:ei L J J') (h':ei L J' nS):ei L J nS:=
 ⟨Nat.le_trans h.next h'.next,fun b hb hf=>(h'.aa b (Nat.lt_of_lt_of_le hb h.next) hf).trans (h.aa b hb hf)⟩
theorem ei.trans' {L L':List Nat} {J J' nS:AH O} (h:ei L J J') (h':ei L' J' nS) (hl:∀ b∈L',b∈L ∨ J.next<=b):ei L J nS:=
 ⟨Nat.le_trans h.next h'.next,fun b hb hf=>(h'.aa b (Nat.lt_of_lt_of_le hb h.next) (fun hm=>by rcases hl b hm with q |q;exact hf q;omega)).trans (h.aa b hb hf)⟩
theorem ei.mono {L L':List Nat} {J J':AH O} (h:ei L J J') (hf:∀ b∈L,b∈L' ∨ J.next<=b):ei L' J J':=⟨h.next,fun b hb hn=>h.aa b hb fun h'=>by rcases hf b h' with q |q;exact hn q;omega⟩
theorem Ext.yz {L:List Nat} {J J':AH O} (h:Ext J J'):ei L J J':=⟨h.next,fun b hb _=>h.aa b hb⟩
theorem ei.ext {J J':AH O} (h:ei [] J J'):Ext J J':=⟨h.next,fun b hb=>h.aa b hb (by simp)⟩
theorem ei.put {L:List Nat} {J J':AH O} (h:ei L J J') {b:Nat} (hb:b∈L ∨ J.next<=b) (x:eY O):ei L J (J'.put b x):=
 ⟨h.next,fun c hc hf=>by
  rw [pI,if_neg (fun e=>by subst e;rcases hb with hb |hb;exact hf hb;omega)]
  exact h.aa c hc hf⟩
theorem ei.az {L:List Nat} {J J':AH O} (h:ei L J J') (k:Nat):ei L J (J'.az k):=⟨by simp;have:=h.next;omega,h.aa⟩
def AH.cs (J:AH O):fH->Option (List AV)
 |.n b=>match J.aa b with |some (.cells _ _ cs)=>some cs |_=>none
 |.f cs=>some cs
theorem WR {J:AH O} {b:fH} {o:Nat}:J.ld b o=(J.cs b).bind (·[o]?):=by
 cases b with
 |n b=>
  simp only [AH.ld,AH.cs]
  cases J.aa b with
  |none=>rfl
  |some x=>cases x<;>rfl
 |f cs=>rfl
def SA.bk:SA->List Nat |.loc (.n b) _ _=>[b] |_=>[]
structure Rd (J:AH O) (es:Nat) (a:SA) (n:Nat) (cs:List AV):Prop where
 len:cs.length=n*es
 wh:match a with
  |.loc b o vj=>vj=es/\∃ all,J.cs b=some all/\o+n*es<=all.length/\cs=(all.drop o).take (n*es)
  |_=>n=0/\cs=[]
def iu (es:Nat) (a:SA) (n:Nat) (cs:List AV):Prop:=∀ (O:Type) (J:AH O),Rd J es a n cs
structure aY (J:AH O) (el es:Nat) (a:SA) (n:Nat) (cs:List AV):Prop where
 len:cs.length=n*es
 wh:match a with
  |.loc b o e=>∃ k,b=.n k/\o=0/\e=es/\J.aa k=some (.cells true el cs)/\k<J.next
  |_=>n=0
theorem Rd.of {J J':AH O} {es n:Nat} {a:SA} {cs:List AV} (h:Rd J es a n cs) (hb:∀ b∈SA.bk a,J'.aa b=J.aa b):Rd J' es a n cs:=by
 refine ⟨h.len,?_⟩
 have h2:=h.wh
 cases a with
 |loc b o e=>
  obtain ⟨h1,all,h2,h3⟩:=h2
  refine ⟨h1,all,?_,h3⟩
  cases b with
  |n b=>rw [<-h2];simp only [AH.cs];rw [hb b (by simp [SA.bk])]
  |f cs=>exact h2
 |nil=>exact h2
 |z=>exact h2
theorem Rd.cO {J:AH O} {es n:Nat} {a:SA} {cs:List AV} (h:Rd J es a n cs) (hw:∀ b,J.next<=b->J.aa b=none):∀ b∈SA.bk a,b<J.next:=fun b hb=>by
 have h2:=h.wh
 match a,hb,h2 with
 |.loc (.n c) o e,hb,h2=>
  obtain ⟨h1,all,h3,_⟩:=h2
  simp only [SA.bk,List.mem_singleton] at hb
  subst hb
  rcases Nat.lt_or_ge b J.next with hh |hh
  ·exact hh
  ·simp only [AH.cs,hw b hh] at h3;cases h3
theorem iu.nil (es:Nat):iu es .nil 0 []:=fun _ _=>⟨by simp,rfl,rfl⟩
theorem iu.z (es:Nat):iu es .z 0 []:=fun _ _=>⟨by simp,rfl,rfl⟩
theorem iu.f {es n:Nat} {cs:List AV} (h:cs.length=n*es):iu es (.loc (.f cs) 0 es) n cs:=fun _ _=>⟨h,rfl,cs,rfl,by omega,by rw [List.drop_zero,List.take_of_length_le (by omega)]⟩
theorem iu.len {es n:Nat} {a:SA} {cs:List AV} (h:iu es a n cs):cs.length=n*es:=(h Unit ⟨fun _=>none,0⟩).len
theorem iu.bk {es n:Nat} {a:SA} {cs:List AV} (h:iu es a n cs):SA.bk a=[]:=by
 match a with
 |.nil=>rfl
 |.z=>rfl
 |.loc (.f _) _ _=>rfl
 |.loc (.n b) o e=>
  obtain ⟨_,_,all,h1,_⟩:=h Unit ⟨fun _=>none,0⟩
  simp [AH.cs] at h1
theorem aY.rd {J:AH O} {el es n:Nat} {a:SA} {cs:List AV} (h:aY J el es a n cs):Rd J es a n cs:=by
 refine ⟨h.len,?_⟩
 have h2:=h.wh
 have hl:=h.len
 cases a with
 |loc b o e=>
  obtain ⟨k,rfl,rfl,rfl,h3,_⟩:=h2
  exact ⟨rfl,cs,by simp only [AH.cs,h3],by omega,by rw [List.drop_zero,List.take_of_length_le (by omega)]⟩
 |nil=>have h2:n=0:=h2;subst h2;exact ⟨rfl,List.eq_nil_of_length_eq_zero (by simpa using hl)⟩
 |z=>have h2:n=0:=h2;subst h2;exact ⟨rfl,List.eq_nil_of_length_eq_zero (by simpa using hl)⟩
theorem aY.of {J J':AH O} {el es n:Nat} {a:SA} {cs:List AV} (h:aY J el es a n cs) (hn:J.next<=J'.next) (hb:∀ b∈SA.bk a,J'.aa b=J.aa b):aY J' el es a n cs:=by
 refine ⟨h.len,?_⟩
 have h2:=h.wh
 cases a with
 |loc b o e=>
  obtain ⟨k,rfl,rfl,rfl,h3,h4⟩:=h2
  exact ⟨k,rfl,rfl,rfl,by rw [hb k (by simp [SA.bk])];exact h3,Nat.lt_of_lt_of_le h4 hn⟩
 |nil=>exact h2
 |z=>exact h2
theorem aY.lt {J:AH O} {el es n:Nat} {a:SA} {cs:List AV} (h:aY J el es a n cs):∀ b∈SA.bk a,b<J.next:=fun b hb=>by
 have h2:=h.wh
 match a,hb,h2 with
 |.loc (.n c) o e,hb,h2=>
  obtain ⟨k,e1,_,_,_,h4⟩:=h2
  cases e1
  simp only [SA.bk,List.mem_singleton] at hb
  subst hb;exact h4
theorem aY.nil (J:AH O) (el es:Nat):aY J el es .nil 0 []:=⟨by simp,rfl⟩
theorem aY.z (J:AH O) (el es:Nat):aY J el es .z 0 []:=⟨by simp,rfl⟩
theorem aY.new {J:AH O} {el es n b:Nat} {cs:List AV} (hl:cs.length=n*es) (h:J.aa b=some (.cells true el cs)) (hb:b<J.next):aY J el es (.loc (.n b) 0 es) n cs:=⟨hl,b,rfl,rfl,rfl,h,hb⟩
theorem aY.loc {J:AH O} {el es n:Nat} {a:SA} {cs:List AV} (h:aY J el es a n cs) (hn:n≠0):∃ k,a=.loc (.n k) 0 es/\J.aa k=some (.cells true el cs)/\k<J.next:=by
 have h2:=h.wh
 cases a with
 |loc b o e=>obtain ⟨k,rfl,rfl,rfl,h3,h4⟩:=h2;exact ⟨k,rfl,h3,h4⟩
 |nil=>exact absurd h2 hn
 |z=>exact absurd h2 hn
theorem Rd.bT {J:AH O} {es n:Nat} {a:SA} {cs:List AV} (h:Rd J es a n cs):J.bT a n es=some cs:=by
 have h2:=h.wh
 cases a with
 |loc b o vj=>
  obtain ⟨rfl,all,h3,h4,h5⟩:=h2
  simp only [AH.bT]
  have hb:Nat.ble (o+n*vj) all.length=true:=Nat.ble_eq_true_of_le h4
  cases b with
  |n b=>
   simp only [AH.cs] at h3
   split at h3
   ·rename_i hx
    cases h3
    simp only [AH.Bu,hx,hb,h5,cond_true]
   ·cases h3
  |f c=>cases h3;simp only [AH.Bu,hb,h5,cond_true]
 |nil=>obtain ⟨rfl,rfl⟩:=h2;rfl
 |z=>obtain ⟨rfl,rfl⟩:=h2;rfl
theorem Rd.ref {J:AH O} {es n:Nat} {a:SA} {cs:List AV} (h:Rd J es a n cs) {i:Nat} (hi:i<n):∃ b o,a=.loc b o es/\∀ j,j<es->J.ld b (o+i*es+j)=cs[i*es+j]? := by
 have h2:=h.wh
 cases a with
 |loc b o vj=>
  obtain ⟨rfl,all,h3,h4,h5⟩:=h2
  refine ⟨b,o,rfl,fun j hj=>?_⟩
  have h6:i*vj+j<n*vj:=by
   have:(i+1)*vj<=n*vj:=Nat.mul_le_mul_right _ hi
   rw [Nat.succ_mul] at this;omega
  rw [WR,h3,h5]
  simp only [Option.bind_some]
  rw [List.getElem?_take,if_pos h6,List.getElem?_drop]
  congr 1;omega
 |nil=>obtain ⟨rfl,_⟩:=h2;omega
 |z=>obtain ⟨rfl,_⟩:=h2;omega
theorem Rd.B4 {J:AH O} {es n lo m:Nat} {a:SA} {cs:List AV} (h:Rd J es a n cs) (hm:lo+m<=n):∃ a',a.B4 lo es=some a'/\Rd J es a' m ((cs.drop (lo*es)).take (m*es))/\SA.bk a'=SA.bk a:=by
 have h2:=h.wh
 have hl:=h.len
 have hle:lo*es+m*es<=n*es:=by rw [<-Nat.add_mul];exact Nat.mul_le_mul_right _ hm
 cases a with
 |loc b o vj=>
  obtain ⟨rfl,all,h3,h4,h5⟩:=h2
  refine ⟨.loc b (o+lo*vj) vj,Ef,⟨by simp [hl];omega,rfl,all,h3,by omega,?_⟩,by cases b<;>rfl⟩
  rw [h5]
  rw [List.drop_take,List.take_take,List.drop_drop]
  congr 1;omega
 |nil=>
  obtain ⟨rfl,rfl⟩:=h2
  have:m=0:=by omega
  subst this
  exact ⟨.nil,rfl,⟨by simp,rfl,by simp⟩,rfl⟩
 |z=>
  obtain ⟨rfl,rfl⟩:=h2
  have:m=0:=by omega
  subst this
  exact ⟨.z,rfl,⟨by simp,rfl,by simp⟩,rfl⟩
theorem iu.B4 {es n lo m:Nat} {a:SA} {cs:List AV} (h:iu es a n cs) (hm:lo+m<=n):∃ a',a.B4 lo es=some a'/\iu es a' m ((cs.drop (lo*es)).take (m*es)):=by
 obtain ⟨a',h1,h2,_⟩:=(h Unit ⟨fun _=>none,0⟩).B4 hm
 refine ⟨a',h1,fun O J=>?_⟩
 obtain ⟨a2,g1,g2,_⟩:=(h O J).B4 hm
 rw [h1] at g1;cases g1;exact g2
theorem jf {J:AH O} {nid el es n m:Nat} {a:SA} {cs new:List AV} (h:aY J el es a n cs) (db:nid∉SA.bk a) (bp:nid<J.next) (hm:new.length=m*es):
  Ok (J.cF nid el es a n m new) fun r=>∃ a',r.1=.sl a' (n+m)/\aY r.2 el es a' (n+m) (cs++new)/\r.2.next=J.next/\(∀ b,b≠nid->b∉SA.bk a->r.2.aa b=J.aa b)/\∀ b∈SA.bk a',b=nid:=by
 have hw:=h.wh
 have hl:=h.len
 have hmul:(n+m)*es=n*es+m*es:=Nat.add_mul _ _ _
 have WS:∀ a:SA,SA.bk a=[]->n=0->(aY J el es a n cs)->Ok (bif Nat.beq n 0 then (bif Nat.beq m 0 then some (AV.sl a 0,J) else some (.sl (.loc (.n nid) 0 es) m,J.put nid (.cells true el new))) else none) fun r=>
   ∃ a',r.1=.sl a' (n+m)/\aY r.2 el es a' (n+m) (cs++new)/\r.2.next=J.next/\(∀ b,b≠nid->b∉SA.bk a->r.2.aa b=J.aa b)/\∀ b∈SA.bk a',b=nid:=by
  intro a hb hn h
  subst hn
  have hc:cs=[]:=List.eq_nil_of_length_eq_zero (by simpa using hl)
  subst hc
  rw [wZ,cond_true]
  cases m with
  |zero=>
   have:new=[]:=List.eq_nil_of_length_eq_zero (by simpa using hm)
   subst this
   rw [wZ,cond_true]
   exact U.2 ⟨a,rfl,by simpa using h,rfl,fun _ _ _=>rfl,fun b dI=>by rw [hb] at dI;simp at dI⟩
  |succ m=>
   have z':Nat.beq (m+1) 0=false:=rfl
   simp only [z',cond_false]
   exact U.2 ⟨_,by rw [Nat.zero_add],aY.new (by simp [hm]) (by simp) bp,rfl,fun q hq _=>by simp [hq],fun b dI=>by simpa [SA.bk] using dI⟩
 cases a with
 |loc b o vj=>
  obtain ⟨k,rfl,rfl,rfl,h3,h4⟩:=hw
  have hc:(Nat.beq el el && Nat.ble (0+n*vj) cs.length)=true:=by
   rw [wZ,Bool.true_and];exact Nat.ble_eq_true_of_le (by omega)
  simp only [AH.cF,h3,hc,cond_true]
  have ht:(cs.drop 0).take (n*vj)=cs:=by rw [List.drop_zero,List.take_of_length_le (by omega)]
  rw [ht]
  exact U.2 ⟨_,rfl,aY.new (by simp [hl,hm,hmul]) (by simp) bp,rfl,fun q hq Cy=>by
   have:q≠k:=fun e=>Cy (by simp [SA.bk,e])
   simp [hq,this],fun b dI=>by simpa [SA.bk] using dI⟩
 |nil=>exact WS .nil rfl hw h
 |z=>exact WS .z rfl hw h
structure BB (J:AH O) (el es:Nat) (L:List (SA × List AV)):Prop where
 own:∀ p∈L,∃ n,aY J el es p.1 n p.2
 apart:∀ (i j:Nat) (p q:SA × List AV) (b:Nat),L[i]? = some p->L[j]? = some q->b∈SA.bk p.1->b∈SA.bk q.1->i=j
def ph (L:List (SA × List AV)):List Nat:=L.flatMap fun p=>SA.bk p.1
theorem gD {L:List (SA × List AV)} {b:Nat}:b∈ph L ↔ ∃ p∈L,b∈SA.bk p.1:=by simp [ph]
theorem BB.lt {J:AH O} {el es:Nat} {L:List (SA × List AV)} (h:BB J el es L):∀ b∈ph L,b<J.next:=fun b hb=>by
 obtain ⟨p,hp,hb⟩:=gD.1 hb
 obtain ⟨n,ho⟩:=h.own p hp
 exact ho.lt b hb
theorem BB.of {J J':AH O} {el es:Nat} {L:List (SA × List AV)} (h:BB J el es L) (hn:J.next<=J'.next) (hb:∀ b∈ph L,J'.aa b=J.aa b):BB J' el es L:=
 ⟨fun p hp=>by obtain ⟨n,ho⟩:=h.own p hp;exact ⟨n,ho.of hn fun b dI=>hb b (gD.2 ⟨p,hp,dI⟩)⟩,h.apart⟩
theorem BB.nil (J:AH O) (el es:Nat):BB J el es []:=⟨fun p hp=>(by cases hp),fun i j p q b h=>by simp at h⟩
theorem BB.set {J J':AH O} {el es:Nat} {L:List (SA × List AV)} (h:BB J el es L) {i:Nat} {p p':SA × List AV} (hi:L[i]? = some p) (hn:J.next<=J'.next)
  (hb:∀ b∈ph L,b∉SA.bk p.1->J'.aa b=J.aa b) (ho:∃ n,aY J' el es p'.1 n p'.2) (hf:∀ b∈SA.bk p'.1,b∈SA.bk p.1 ∨ b∉ph L):BB J' el es (L.set i p'):=by
 have bp:=(List.getElem?_eq_some_iff.1 hi).1
 have key:∀ (j:Nat) (q:SA × List AV),(L.set i p')[j]? = some q->(j=i/\q=p') ∨ (j≠i/\L[j]? = some q):=fun j q hq=>by
  rw [List.getElem?_set] at hq
  split at hq
  ·rename_i pj;subst pj;simp at hq;exact .inl ⟨rfl,hq.symm⟩
  ·rename_i pj;exact .inr ⟨fun e=>pj e.symm,hq⟩
 refine ⟨fun q hq=>?_,fun j k q r b hj hk Qe Qf=>?_⟩
 ·obtain ⟨j,hj⟩:=List.getElem?_of_mem hq
  rcases key j q hj with ⟨_,rfl⟩ |⟨bV,hj⟩
  ·exact ho
  ·obtain ⟨n,ho⟩:=h.own q (List.mem_of_getElem? hj)
   exact ⟨n,ho.of hn fun b dI=>hb b (gD.2 ⟨q,List.mem_of_getElem? hj,dI⟩) fun hp=>bV (h.apart j i q p b hj hi dI hp)⟩
 ·rcases key j q hj with ⟨e1,e2⟩ |⟨bV,qH⟩<;>rcases key k r hk with ⟨e3,e4⟩ |⟨th,qF⟩
  ·omega
  ·subst e1;subst e2
   rcases hf b Qe with g |g
   ·exact absurd (h.apart k j r p b qF hi Qf g) th
   ·exact absurd (gD.2 ⟨r,List.mem_of_getElem? qF,Qf⟩) g
  ·subst e3;subst e4
   rcases hf b Qf with g |g
   ·exact absurd (h.apart j k q p b qH hi Qe g) bV
   ·exact absurd (gD.2 ⟨q,List.mem_of_getElem? qH,Qe⟩) g
  ·exact h.apart j k q r b qH qF Qe Qf
theorem BB.snoc {J:AH O} {el es:Nat} {L:List (SA × List AV)} (h:BB J el es L) {p:SA × List AV} (ho:∃ n,aY J el es p.1 n p.2) (hf:∀ b∈SA.bk p.1,b∉ph L):BB J el es (L++[p]):=by
 have key:∀ (j:Nat) (q:SA × List AV),(L++[p])[j]? = some q->(j=L.length/\q=p) ∨ L[j]? = some q:=fun j q hq=>by
  rw [List.getElem?_append] at hq
  split at hq
  ·exact .inr hq
  ·rename_i bp
   have:=(List.getElem?_eq_some_iff.1 hq).1
   simp at this
   have e:j - L.length=0:=by omega
   rw [e] at hq;simp at hq
   exact .inl ⟨by omega,hq.symm⟩
 refine ⟨fun q hq=>?_,fun j k q r b hj hk Qe Qf=>?_⟩
 ·rcases List.mem_append.1 hq with hq |hq
  ·exact h.own q hq
  ·simp at hq;subst hq;exact ho
 ·rcases key j q hj with ⟨e1,e2⟩ |qH<;>rcases key k r hk with ⟨e3,e4⟩ |qF
  ·omega
  ·subst e2;exact absurd (gD.2 ⟨r,List.mem_of_getElem? qF,Qf⟩) (hf b Qe)
  ·subst e4;exact absurd (gD.2 ⟨q,List.mem_of_getElem? qH,Qe⟩) (hf b Qf)
  ·exact h.apart j k q r b qH qF Qe Qf
theorem Ei {L:List (SA × List AV)} {i:Nat} {p':SA × List AV} {b:Nat} (h:b∈ph (L.set i p')):b∈SA.bk p'.1 ∨ b∈ph L:=by
 obtain ⟨q,hq,hb⟩:=gD.1 h
 rcases List.mem_or_eq_of_mem_set hq with g |g
 ·exact .inr (gD.2 ⟨q,g,hb⟩)
 ·subst g;exact .inl hb
theorem CG {L L':List (SA × List AV)}:ph (L++L')=ph L++ph L':=by simp [ph]
theorem uH {α:Type} {enc:α->List AV} {k:Nat} (hk:∀ x,(enc x).length=k):∀ l:List α,(l.flatMap enc).length=l.length*k
 |[]=>by simp
 |x::l=>by simp only [List.flatMap_cons,List.length_append,hk,uH hk l,List.length_cons,Nat.succ_mul];omega
theorem IV {α:Type} {enc:α->List AV} {k:Nat} (hk:∀ x,(enc x).length=k):∀ (l:List α) (i j:Nat),j<k->(l.flatMap enc)[i*k+j]? = (l[i]?).bind fun x=>(enc x)[j]?
 |[],i,j,hj=>by simp
 |x::l,0,j,hj=>by
  simp only [List.flatMap_cons,Nat.zero_mul,Nat.zero_add,List.getElem?_cons_zero,Option.bind_some]
  rw [List.getElem?_append_left (by rw [hk];exact hj)]
 |x::l,i+1,j,hj=>by
  simp only [List.flatMap_cons,List.getElem?_cons_succ]
  rw [Nat.succ_mul,List.getElem?_append_right (by rw [hk];omega),hk,show i*k+k+j - k=i*k+j by omega]
  exact IV hk l i j hj
theorem m7 {α:Type} {enc:α->List AV} {k:Nat} (hk:∀ x,(enc x).length=k) {l:List α} {i j:Nat} (hj:j<k) {x:α} (hx:l[i]? = some x):(l.flatMap enc)[i*k+j]? = (enc x)[j]? := by
 rw [IV hk l i j hj,hx];rfl
theorem rn {α:Type} {enc:α->List AV} {k:Nat} (hk:∀ x,(enc x).length=k):∀ (l:List α) (i j:Nat) (vs:List AV) (x y:α),l[i]? = some x->j+vs.length<=k->bQ (enc x) j vs=enc y->bQ (l.flatMap enc) (i*k+j) vs=(l.set i y).flatMap enc
 |[],i,j,vs,x,y,hx,hj,he=>by simp at hx
 |z::l,0,j,vs,x,y,hx,hj,he=>by
  simp only [List.getElem?_cons_zero,Option.some.injEq] at hx
  subst hx
  simp only [List.flatMap_cons,Nat.zero_mul,Nat.zero_add,List.set_cons_zero]
  rw [<-he]
  simp only [bQ]
  rw [List.take_append_of_le_length (by rw [hk];omega),List.drop_append_of_le_length (by rw [hk];omega)]
  simp
 |z::l,i+1,j,vs,x,y,hx,hj,he=>by
  simp only [List.getElem?_cons_succ] at hx
  simp only [List.flatMap_cons,List.set_cons_succ]
  rw [<-rn hk l i j vs x y hx hj he]
  simp only [bQ]
  rw [show (i+1)*k+j=k+(i*k+j) by rw [Nat.succ_mul];omega]
  rw [List.take_append,List.drop_append,hk,List.take_of_length_le (by rw [hk];omega),List.drop_eq_nil_of_le (by rw [hk];omega)]
  simp only [List.append_assoc,List.nil_append]
  rw [show k+(i*k+j) - k=i*k+j by omega,show k+(i*k+j)+vs.length - k=i*k+j+vs.length by omega]
theorem iu.row {α:Type} {enc:α->List AV} {k n:Nat} (hk:∀ x,(enc x).length=k) {a:SA} {l:List α} (h:iu k a n (l.flatMap enc)) {i:Nat} {x:α} (hx:l[i]? = some x) (LS:0<k):
  ∃ b o,a=.loc b o k/\∀ (O:Type) (J:AH O) (j:Nat),j<k->J.ld b (o+i*k+j)=(enc x)[j]? := by
 have hi:i<n:=by
  have h1:=h.len
  rw [uH hk] at h1
  have h2:=Nat.eq_of_mul_eq_mul_right LS h1
  have:=(List.getElem?_eq_some_iff.1 hx).1
  omega
 obtain ⟨b,o,rfl,_⟩:=(h Unit ⟨fun _=>none,0⟩).ref hi
 refine ⟨b,o,rfl,fun O J j hj=>?_⟩
 obtain ⟨b',o',e,h2⟩:=(h O J).ref hi
 cases e
 rw [h2 j hj,m7 hk hj hx]
theorem jg {cs:List AV} {i:Nat} {v:AV} (h:i<cs.length):bQ cs i [v]=cs.set i v:=by
 rw [List.set_eq_take_append_cons_drop,if_pos h];simp [bQ]
theorem Rd.UF {J:AH O} {n:Nat} {a:SA} {cs:List AV} (h:Rd J 1 a n cs) {i:Nat} {v:AV} (hv:cs[i]? = some v):∃ b o,a=.loc b o 1/\J.ld b (o+i*1)=some v:=by
 have hi:i<n:=by
  have:=(List.getElem?_eq_some_iff.1 hv).1
  rw [h.len] at this;omega
 obtain ⟨b,o,rfl,h2⟩:=h.ref hi
 exact ⟨b,o,rfl,by have:=h2 0 (by omega);rwa [Nat.add_zero,Nat.mul_one,Nat.add_zero,hv,<-Nat.mul_one i] at this⟩
def FZ (d:Nat) (H:Nat->Option (eY O)) (L:List Nat) (v v':AV):Prop:=
 ∀ J:AH O,(∀ b∈L,J.aa b=H b)->∃ J',mg d J v=some (v',J')/\J'.next=J.next/\∀ b,J'.aa b=if b∈L then none else J.aa b
def pU (d:Nat) (H:Nat->Option (eY O)) (L:List Nat) (vs lA:List AV):Prop:=
 ∀ J:AH O,(∀ b∈L,J.aa b=H b)->∃ J',nB (mg d) vs J=some (lA,J')/\J'.next=J.next/\∀ b,J'.aa b=if b∈L then none else J.aa b
theorem yA {d:Nat} {J:AH O} {b o es n:Nat}:mg (d+1) J (.sl (.loc (.n b) o es) n)=match J.aa b with
   |some (.cells true _ cs)=>bif Nat.ble (o+n*es) cs.length then (nB (mg d) ((cs.drop o).take (n*es)) (J.kill b)).bind fun r=>some (.sl (.loc (.f r.1) 0 es) n,r.2) else none
   |_=>none:=rfl
theorem pU.nil {d:Nat} {H:Nat->Option (eY O)}:pU d H [] [] []:=fun J _=>⟨J,rfl,rfl,fun b=>by simp⟩
theorem pU.cons {d:Nat} {H:Nat->Option (eY O)} {L1 L2:List Nat} {v v':AV} {vs lA:List AV} (h1:FZ d H L1 v v') (h2:pU d H L2 vs lA) (hd:∀ b∈L1,b∉L2):pU d H (L1++L2) (v::vs) (v'::lA):=fun J hJ=>by
 obtain ⟨J1,e1,n1,b1⟩:=h1 J fun b hb=>hJ b (by simp [hb])
 obtain ⟨J2,e2,n2,b2⟩:=h2 J1 fun b hb=>by rw [b1,if_neg (fun h=>hd b h hb)];exact hJ b (by simp [hb])
 refine ⟨J2,by simp only [nB,e1,e2,Option.bind_some],by omega,fun b=>?_⟩
 rw [b2,b1]
 by_cases g1:b∈L1<;>by_cases g2:b∈L2<;>simp [g1,g2]
theorem pU.WT {d:Nat} {H:Nat->Option (eY O)} {L:List Nat} {v v':AV} {vs lA:List AV} (h1:FZ d H [] v v') (h2:pU d H L vs lA):pU d H L (v::vs) (v'::lA):=by
 have:=pU.cons h1 h2 (by simp)
 simpa using this
def AV.flat:AV->Bool
 |.sl (.loc (.n _) _ _) _=>false
 |.p (some (.n _,_))=>false
 |.agg _=>false
 |.aB _=>false
 |_=>true
theorem FZ.flat {d:Nat} {H:Nat->Option (eY O)} {v:AV} (h:v.flat=true):FZ (d+1) H [] v v:=fun J _=>by
 refine ⟨J,?_,rfl,fun b=>by simp⟩
 unfold mg
 split<;>first |rfl |(simp [AV.flat] at h)
theorem pU.flat {d:Nat} {H:Nat->Option (eY O)}:∀ {vs:List AV},vs.all AV.flat=true->pU (d+1) H [] vs vs
 |[],_=>pU.nil
 |v::vs,h=>by
  simp only [List.all_cons,Bool.and_eq_true] at h
  exact pU.WT (FZ.flat h.1) (pU.flat h.2)
theorem pU.append {d:Nat} {H:Nat->Option (eY O)} {L1 L2:List Nat} {us RZ vs lA:List AV} (h1:pU d H L1 us RZ) (h2:pU d H L2 vs lA) (hd:∀ b∈L1,b∉L2):pU d H (L1++L2) (us++vs) (RZ++lA):=fun J hJ=>by
 have app:∀ (us:List AV) (RZ:List AV) (J J1 J2:AH O),nB (mg d) us J=some (RZ,J1)->nB (mg d) vs J1=some (lA,J2)->nB (mg d) (us++vs) J=some (RZ++lA,J2):=by
  intro us
  induction us with
  |nil=>intro RZ J J1 J2 e1 e2;cases e1;exact e2
  |cons u us ih=>
   intro RZ J J1 J2 e1 e2
   simp only [nB] at e1
   obtain ⟨⟨u1,s1⟩,g1,e1⟩:=Option.bind_eq_some_iff.1 e1
   obtain ⟨⟨us1,s2⟩,g2,e1⟩:=Option.bind_eq_some_iff.1 e1
   cases e1
   simp only [List.cons_append,nB,g1,ih _ _ _ _ g2 e2,Option.bind_some]
 obtain ⟨J1,e1,n1,b1⟩:=h1 J fun b hb=>hJ b (by simp [hb])
 obtain ⟨J2,e2,n2,b2⟩:=h2 J1 fun b hb=>by rw [b1,if_neg (fun h=>hd b h hb)];exact hJ b (by simp [hb])
 refine ⟨J2,app _ _ _ _ _ e1 e2,by omega,fun b=>?_⟩
 rw [b2,b1]
 by_cases g1:b∈L1<;>by_cases g2:b∈L2<;>simp [g1,g2]
theorem FZ.sl {d:Nat} {J:AH O} {H:Nat->Option (eY O)} {L:List Nat} {el es n:Nat} {a:SA} {cs iI:List AV} (h:aY J el es a n cs) (hH:∀ b∈SA.bk a,H b=J.aa b) (hc:pU (d+1) H L cs iI) (hl:iI.length=cs.length) (hd:∀ b∈SA.bk a,b∉L):∃ a',FZ (d+2) H (SA.bk a++L) (.sl a n) (.sl a' n)/\iu es a' n iI:=by
 have hw:=h.wh
 have hlen:=h.len
 have nz:n=0->cs=[]:=fun e=>by subst e;exact List.eq_nil_of_length_eq_zero (by simpa using hlen)
 have e0:n=0->iI=[]:=fun e=>by rw [nz e] at hl;exact List.eq_nil_of_length_eq_zero (by simpa using hl)
 have zero:∀ a:SA,SA.bk a=[]->(a=.nil ∨ a=.z)->n=0->FZ (d+2) H (SA.bk a++L) (.sl a n) (.sl a n):=fun a hb ha hn J1 hJ=>by
  have h0:=nz hn
  subst h0
  obtain ⟨J',e1,n1,b1⟩:=hc J1 (fun b dI=>hJ b (by simp [dI]))
  simp only [nB,Option.some.injEq,Prod.mk.injEq] at e1
  obtain ⟨_,rfl⟩:=e1
  refine ⟨J1,?_,rfl,fun b=>by rw [hb,List.nil_append];exact b1 b⟩
  rcases ha with rfl |rfl<;>rfl
 cases a with
 |loc b o e=>
  obtain ⟨k,rfl,rfl,rfl,h3,h4⟩:=hw
  refine ⟨.loc (.f iI) 0 e,fun J1 hJ=>?_,iu.f (by rw [hl];exact hlen)⟩
  have hk:J1.aa k=some (.cells true el cs):=by rw [hJ k (by simp [SA.bk]),hH k (by simp [SA.bk])];exact h3
  obtain ⟨J',e1,n1,b1⟩:=hc (J1.kill k) fun b hb=>by
   have:b≠k:=fun e=>hd k (by simp [SA.bk]) (e▸hb)
   rw [gL,if_neg this];exact hJ b (by simp [hb])
  refine ⟨J',?_,by simpa using n1,fun b=>?_⟩
  ·rw [yA,hk]
   simp only
   rw [Nat.ble_eq_true_of_le (by omega),cond_true,List.drop_zero,List.take_of_length_le (by omega),e1];rfl
  ·rw [b1,gL]
   by_cases g1:b=k<;>by_cases g2:b∈L<;>simp [SA.bk,g1,g2]
 |nil=>exact ⟨.nil,zero .nil rfl (.inl rfl) hw,by have hw:n=0:=hw;subst hw;rw [e0 rfl];exact iu.nil es⟩
 |z=>exact ⟨.z,zero .z rfl (.inr rfl) hw,by have hw:n=0:=hw;subst hw;rw [e0 rfl];exact iu.z es⟩
theorem FZ.agg {d:Nat} {H:Nat->Option (eY O)} {L:List Nat} {vs lA:List AV} (h:pU d H L vs lA):FZ (d+1) H L (.agg vs) (.agg lA):=fun J hJ=>by
 obtain ⟨J',e,n,b⟩:=h J hJ
 exact ⟨J',by simp only [mg,e,Option.bind_some],n,b⟩
theorem FZ.aB {d:Nat} {H:Nat->Option (eY O)} {L:List Nat} {vs lA:List AV} (h:pU d H L vs lA):FZ (d+1) H L (.aB vs) (.aB lA):=fun J hJ=>by
 obtain ⟨J',e,n,b⟩:=h J hJ
 exact ⟨J',by simp only [mg,e,Option.bind_some],n,b⟩
theorem IW {s:Sm O} {xs:List AV} {J:AH O} {Q:AV->Prop} (h:Ok (s xs J) fun r=>∃ v' L,FZ 8 r.2.aa L r.1 v'/\(∀ b∈L,J.next<=b)/\Ext J r.2/\Q v'):Ok (vk s xs J) fun r=>Q r.1/\Ext J r.2:=by
 obtain ⟨⟨v,J1⟩,h1,v',L,h2,h3,h4,h5⟩:=h
 obtain ⟨J2,e,n,b⟩:=h2 J1 fun _ _=>rfl
 refine ⟨(v',J2),by simp only [vk,h1,Option.bind_some,e],h5,by show J.next<=J2.next;rw [n];exact h4.next,fun q hq=>?_⟩
 show J2.aa q=_
 rw [b,if_neg (fun hm=>by have:=h3 q hm;omega)];exact h4.aa q hq
end Go.Abs
