/-
  AbsSl: slices in proofs about what is run: reading, appending, writing; what is never written again.
-/
import Derived.Test.YtncohicmiihjiaaGreatAbsSim
import Derived.Test.YtncohicmiihjiaaGreatAbsFrz
set_option linter.unusedVariables false
set_option linter.unusedSimpArgs false
set_option linter.constructorNameAsVariable false
namespace Go.Abs
open Go
variable {O:Type}
structure eA (L:List Nat) (J J':AH O):Prop where
 next:J.next<=J'.next
 aa:∀ b,b<J.next->b∉L->J'.aa b=J.aa b
theorem eA.refl (L:List Nat) (J:AH O):eA L J J:=⟨Nat.le_refl _,fun _ _ _=>rfl⟩
theorem eA.trans {L:List Nat} {J J' oO:AH O} (h:eA L J J') (h':eA L J' oO):eA L J oO:=
 ⟨Nat.le_trans h.next h'.next,fun b hb hf=>(h'.aa b (Nat.lt_of_lt_of_le hb h.next) hf).trans (h.aa b hb hf)⟩
theorem eA.trans' {L L':List Nat} {J J' oO:AH O} (h:eA L J J') (h':eA L' J' oO) (hl:∀ b∈L',b∈L ∨ J.next<=b):eA L J oO:=
 ⟨Nat.le_trans h.next h'.next,fun b hb hf=>(h'.aa b (Nat.lt_of_lt_of_le hb h.next) (fun hm=>by rcases hl b hm with q |q;exact hf q;omega)).trans (h.aa b hb hf)⟩
theorem eA.mono {L L':List Nat} {J J':AH O} (h:eA L J J') (hf:∀ b∈L,b∈L' ∨ J.next<=b):eA L' J J':=⟨h.next,fun b hb hn=>h.aa b hb fun h'=>by rcases hf b h' with q |q;exact hn q;omega⟩
theorem Ext.AS {L:List Nat} {J J':AH O} (h:Ext J J'):eA L J J':=⟨h.next,fun b hb _=>h.aa b hb⟩
theorem eA.ext {J J':AH O} (h:eA [] J J'):Ext J J':=⟨h.next,fun b hb=>h.aa b hb (by simp)⟩
theorem eA.put {L:List Nat} {J J':AH O} (h:eA L J J') {b:Nat} (hb:b∈L ∨ J.next<=b) (x:dL O):eA L J (J'.put b x):=
 ⟨h.next,fun c hc hf=>by
  rw [pr,if_neg (fun e=>by subst e;rcases hb with hb |hb;exact hf hb;omega)]
  exact h.aa c hc hf⟩
theorem eA.ax {L:List Nat} {J J':AH O} (h:eA L J J') (k:Nat):eA L J (J'.ax k):=⟨by simp;have:=h.next;omega,h.aa⟩
def AH.cs (J:AH O):fJ->Option (List AV)
 |.n b=>match J.aa b with |some (.cells _ _ cs)=>some cs |_=>none
 |.f cs=>some cs
theorem XF {J:AH O} {b:fJ} {o:Nat}:J.ld b o=(J.cs b).bind (·[o]?):=by
 cases b with
 |n b=>
  simp only [AH.ld,AH.cs]
  cases J.aa b with
  |none=>rfl
  |some x=>cases x<;>rfl
 |f cs=>rfl
def SA.bk:SA->List Nat |.loc (.n b) _ _=>[b] |_=>[]
structure Rd (J:AH O) (es:Nat) (a:SA) (n:Nat) (cs:List AV):Prop where
 len:cs.length=n*es
 wh:match a with
  |.loc b o vz=>vz=es/\∃ all,J.cs b=some all/\o+n*es<=all.length/\cs=(all.drop o).take (n*es)
  |_=>n=0/\cs=[]
def iq (es:Nat) (a:SA) (n:Nat) (cs:List AV):Prop:=∀ (O:Type) (J:AH O),Rd J es a n cs
structure ba (J:AH O) (el es:Nat) (a:SA) (n:Nat) (cs:List AV):Prop where
 len:cs.length=n*es
 wh:match a with
  |.loc b o e=>∃ k,b=.n k/\o=0/\e=es/\J.aa k=some (.cells true el cs)/\k<J.next
  |_=>n=0
theorem Rd.of {J J':AH O} {es n:Nat} {a:SA} {cs:List AV} (h:Rd J es a n cs) (hb:∀ b∈SA.bk a,J'.aa b=J.aa b):Rd J' es a n cs:=by
 refine ⟨h.len,?_⟩
 have h2:=h.wh
 cases a with
 |loc b o e=>
  obtain ⟨h1,all,h2,h3⟩:=h2
  refine ⟨h1,all,?_,h3⟩
  cases b with
  |n b=>rw [<-h2];simp only [AH.cs];rw [hb b (by simp [SA.bk])]
  |f cs=>exact h2
 |nil=>exact h2
 |z=>exact h2
theorem Rd.cA {J:AH O} {es n:Nat} {a:SA} {cs:List AV} (h:Rd J es a n cs) (hw:∀ b,J.next<=b->J.aa b=none):∀ b∈SA.bk a,b<J.next:=fun b hb=>by
 have h2:=h.wh
 match a,hb,h2 with
 |.loc (.n c) o e,hb,h2=>
  obtain ⟨h1,all,h3,_⟩:=h2
  simp only [SA.bk,List.mem_singleton] at hb
  subst hb
  rcases Nat.lt_or_ge b J.next with hh |hh
  ·exact hh
  ·simp only [AH.cs,hw b hh] at h3;cases h3
theorem iq.nil (es:Nat):iq es .nil 0 []:=fun _ _=>⟨by simp,rfl,rfl⟩
theorem iq.z (es:Nat):iq es .z 0 []:=fun _ _=>⟨by simp,rfl,rfl⟩
theorem iq.f {es n:Nat} {cs:List AV} (h:cs.length=n*es):iq es (.loc (.f cs) 0 es) n cs:=fun _ _=>⟨h,rfl,cs,rfl,by omega,by rw [List.drop_zero,List.take_of_length_le (by omega)]⟩
theorem iq.len {es n:Nat} {a:SA} {cs:List AV} (h:iq es a n cs):cs.length=n*es:=(h Unit ⟨fun _=>none,0⟩).len
theorem iq.bk {es n:Nat} {a:SA} {cs:List AV} (h:iq es a n cs):SA.bk a=[]:=by
 match a with
 |.nil=>rfl
 |.z=>rfl
 |.loc (.f _) _ _=>rfl
 |.loc (.n b) o e=>
  obtain ⟨_,_,all,h1,_⟩:=h Unit ⟨fun _=>none,0⟩
  simp [AH.cs] at h1
theorem ba.rd {J:AH O} {el es n:Nat} {a:SA} {cs:List AV} (h:ba J el es a n cs):Rd J es a n cs:=by
 refine ⟨h.len,?_⟩
 have h2:=h.wh
 have hl:=h.len
 cases a with
 |loc b o e=>
  obtain ⟨k,rfl,rfl,rfl,h3,_⟩:=h2
  exact ⟨rfl,cs,by simp only [AH.cs,h3],by omega,by rw [List.drop_zero,List.take_of_length_le (by omega)]⟩
 |nil=>have h2:n=0:=h2;subst h2;exact ⟨rfl,List.eq_nil_of_length_eq_zero (by simpa using hl)⟩
 |z=>have h2:n=0:=h2;subst h2;exact ⟨rfl,List.eq_nil_of_length_eq_zero (by simpa using hl)⟩
theorem ba.of {J J':AH O} {el es n:Nat} {a:SA} {cs:List AV} (h:ba J el es a n cs) (hn:J.next<=J'.next) (hb:∀ b∈SA.bk a,J'.aa b=J.aa b):ba J' el es a n cs:=by
 refine ⟨h.len,?_⟩
 have h2:=h.wh
 cases a with
 |loc b o e=>
  obtain ⟨k,rfl,rfl,rfl,h3,h4⟩:=h2
  exact ⟨k,rfl,rfl,rfl,by rw [hb k (by simp [SA.bk])];exact h3,Nat.lt_of_lt_of_le h4 hn⟩
 |nil=>exact h2
 |z=>exact h2
theorem ba.lt {J:AH O} {el es n:Nat} {a:SA} {cs:List AV} (h:ba J el es a n cs):∀ b∈SA.bk a,b<J.next:=fun b hb=>by
 have h2:=h.wh
 match a,hb,h2 with
 |.loc (.n c) o e,hb,h2=>
  obtain ⟨k,e1,_,_,_,h4⟩:=h2
  cases e1
  simp only [SA.bk,List.mem_singleton] at hb
  subst hb;exact h4
theorem ba.nil (J:AH O) (el es:Nat):ba J el es .nil 0 []:=⟨by simp,rfl⟩
theorem ba.z (J:AH O) (el es:Nat):ba J el es .z 0 []:=⟨by simp,rfl⟩
theorem ba.new {J:AH O} {el es n b:Nat} {cs:List AV} (hl:cs.length=n*es) (h:J.aa b=some (.cells true el cs)) (hb:b<J.next):ba J el es (.loc (.n b) 0 es) n cs:=⟨hl,b,rfl,rfl,rfl,h,hb⟩
theorem ba.loc {J:AH O} {el es n:Nat} {a:SA} {cs:List AV} (h:ba J el es a n cs) (hn:n≠0):∃ k,a=.loc (.n k) 0 es/\J.aa k=some (.cells true el cs)/\k<J.next:=by
 have h2:=h.wh
 cases a with
 |loc b o e=>obtain ⟨k,rfl,rfl,rfl,h3,h4⟩:=h2;exact ⟨k,rfl,h3,h4⟩
 |nil=>exact absurd h2 hn
 |z=>exact absurd h2 hn
theorem Rd.bU {J:AH O} {es n:Nat} {a:SA} {cs:List AV} (h:Rd J es a n cs):J.bU a n es=some cs:=by
 have h2:=h.wh
 cases a with
 |loc b o vz=>
  obtain ⟨rfl,all,h3,h4,h5⟩:=h2
  simp only [AH.bU]
  have hb:Nat.ble (o+n*vz) all.length=true:=Nat.ble_eq_true_of_le h4
  cases b with
  |n b=>
   simp only [AH.cs] at h3
   split at h3
   ·rename_i hx
    cases h3
    simp only [AH.BM,hx,hb,h5,cond_true]
   ·cases h3
  |f c=>cases h3;simp only [AH.BM,hb,h5,cond_true]
 |nil=>obtain ⟨rfl,rfl⟩:=h2;rfl
 |z=>obtain ⟨rfl,rfl⟩:=h2;rfl
theorem Rd.ref {J:AH O} {es n:Nat} {a:SA} {cs:List AV} (h:Rd J es a n cs) {i:Nat} (hi:i<n):∃ b o,a=.loc b o es/\∀ j,j<es->J.ld b (o+i*es+j)=cs[i*es+j]? := by
 have h2:=h.wh
 cases a with
 |loc b o vz=>
  obtain ⟨rfl,all,h3,h4,h5⟩:=h2
  refine ⟨b,o,rfl,fun j hj=>?_⟩
  have h6:i*vz+j<n*vz:=by
   have:(i+1)*vz<=n*vz:=Nat.mul_le_mul_right _ hi
   rw [Nat.succ_mul] at this;omega
  rw [XF,h3,h5]
  simp only [Option.bind_some]
  rw [List.getElem?_take,if_pos h6,List.getElem?_drop]
  congr 1;omega
 |nil=>obtain ⟨rfl,_⟩:=h2;omega
 |z=>obtain ⟨rfl,_⟩:=h2;omega
theorem Rd.Cm {J:AH O} {es n lo m:Nat} {a:SA} {cs:List AV} (h:Rd J es a n cs) (hm:lo+m<=n):∃ a',a.Cm lo es=some a'/\Rd J es a' m ((cs.drop (lo*es)).take (m*es))/\SA.bk a'=SA.bk a:=by
 have h2:=h.wh
 have hl:=h.len
 have hle:lo*es+m*es<=n*es:=by rw [<-Nat.add_mul];exact Nat.mul_le_mul_right _ hm
 cases a with
 |loc b o vz=>
  obtain ⟨rfl,all,h3,h4,h5⟩:=h2
  refine ⟨.loc b (o+lo*vz) vz,Er,⟨by simp [hl];omega,rfl,all,h3,by omega,?_⟩,by cases b<;>rfl⟩
  rw [h5]
  rw [List.drop_take,List.take_take,List.drop_drop]
  congr 1;omega
 |nil=>
  obtain ⟨rfl,rfl⟩:=h2
  have:m=0:=by omega
  subst this
  exact ⟨.nil,rfl,⟨by simp,rfl,by simp⟩,rfl⟩
 |z=>
  obtain ⟨rfl,rfl⟩:=h2
  have:m=0:=by omega
  subst this
  exact ⟨.z,rfl,⟨by simp,rfl,by simp⟩,rfl⟩
theorem iq.Cm {es n lo m:Nat} {a:SA} {cs:List AV} (h:iq es a n cs) (hm:lo+m<=n):∃ a',a.Cm lo es=some a'/\iq es a' m ((cs.drop (lo*es)).take (m*es)):=by
 obtain ⟨a',h1,h2,_⟩:=(h Unit ⟨fun _=>none,0⟩).Cm hm
 refine ⟨a',h1,fun O J=>?_⟩
 obtain ⟨a2,g1,g2,_⟩:=(h O J).Cm hm
 rw [h1] at g1;cases g1;exact g2
theorem ja {J:AH O} {nid el es n m:Nat} {a:SA} {cs new:List AV} (h:ba J el es a n cs) (cJ:nid∉SA.bk a) (aY:nid<J.next) (hm:new.length=m*es):
  Ok (J.cL nid el es a n m new) fun r=>∃ a',r.1=.sl a' (n+m)/\ba r.2 el es a' (n+m) (cs++new)/\r.2.next=J.next/\(∀ b,b≠nid->b∉SA.bk a->r.2.aa b=J.aa b)/\∀ b∈SA.bk a',b=nid:=by
 have hw:=h.wh
 have hl:=h.len
 have hmul:(n+m)*es=n*es+m*es:=Nat.add_mul _ _ _
 have XG:∀ a:SA,SA.bk a=[]->n=0->(ba J el es a n cs)->Ok (bif Nat.beq n 0 then (bif Nat.beq m 0 then some (AV.sl a 0,J) else some (.sl (.loc (.n nid) 0 es) m,J.put nid (.cells true el new))) else none) fun r=>
   ∃ a',r.1=.sl a' (n+m)/\ba r.2 el es a' (n+m) (cs++new)/\r.2.next=J.next/\(∀ b,b≠nid->b∉SA.bk a->r.2.aa b=J.aa b)/\∀ b∈SA.bk a',b=nid:=by
  intro a hb hn h
  subst hn
  have hc:cs=[]:=List.eq_nil_of_length_eq_zero (by simpa using hl)
  subst hc
  rw [xd,cond_true]
  cases m with
  |zero=>
   have:new=[]:=List.eq_nil_of_length_eq_zero (by simpa using hm)
   subst this
   rw [xd,cond_true]
   exact U.2 ⟨a,rfl,by simpa using h,rfl,fun _ _ _=>rfl,fun b dJ=>by rw [hb] at dJ;simp at dJ⟩
  |succ m=>
   have z':Nat.beq (m+1) 0=false:=rfl
   simp only [z',cond_false]
   exact U.2 ⟨_,by rw [Nat.zero_add],ba.new (by simp [hm]) (by simp) aY,rfl,fun q hq _=>by simp [hq],fun b dJ=>by simpa [SA.bk] using dJ⟩
 cases a with
 |loc b o vz=>
  obtain ⟨k,rfl,rfl,rfl,h3,h4⟩:=hw
  have hc:(Nat.beq el el && Nat.ble (0+n*vz) cs.length)=true:=by
   rw [xd,Bool.true_and];exact Nat.ble_eq_true_of_le (by omega)
  simp only [AH.cL,h3,hc,cond_true]
  have ht:(cs.drop 0).take (n*vz)=cs:=by rw [List.drop_zero,List.take_of_length_le (by omega)]
  rw [ht]
  exact U.2 ⟨_,rfl,ba.new (by simp [hl,hm,hmul]) (by simp) aY,rfl,fun q hq tW=>by
   have:q≠k:=fun e=>tW (by simp [SA.bk,e])
   simp [hq,this],fun b dJ=>by simpa [SA.bk] using dJ⟩
 |nil=>exact XG .nil rfl hw h
 |z=>exact XG .z rfl hw h
structure BV (J:AH O) (el es:Nat) (L:List (SA × List AV)):Prop where
 own:∀ p∈L,∃ n,ba J el es p.1 n p.2
 apart:∀ (i j:Nat) (p q:SA × List AV) (b:Nat),L[i]? = some p->L[j]? = some q->b∈SA.bk p.1->b∈SA.bk q.1->i=j
def oS (L:List (SA × List AV)):List Nat:=L.flatMap fun p=>SA.bk p.1
theorem gG {L:List (SA × List AV)} {b:Nat}:b∈oS L ↔ ∃ p∈L,b∈SA.bk p.1:=by simp [oS]
theorem BV.lt {J:AH O} {el es:Nat} {L:List (SA × List AV)} (h:BV J el es L):∀ b∈oS L,b<J.next:=fun b hb=>by
 obtain ⟨p,hp,hb⟩:=gG.1 hb
 obtain ⟨n,ho⟩:=h.own p hp
 exact ho.lt b hb
theorem BV.of {J J':AH O} {el es:Nat} {L:List (SA × List AV)} (h:BV J el es L) (hn:J.next<=J'.next) (hb:∀ b∈oS L,J'.aa b=J.aa b):BV J' el es L:=
 ⟨fun p hp=>by obtain ⟨n,ho⟩:=h.own p hp;exact ⟨n,ho.of hn fun b dJ=>hb b (gG.2 ⟨p,hp,dJ⟩)⟩,h.apart⟩
theorem BV.nil (J:AH O) (el es:Nat):BV J el es []:=⟨fun p hp=>(by cases hp),fun i j p q b h=>by simp at h⟩
theorem BV.set {J J':AH O} {el es:Nat} {L:List (SA × List AV)} (h:BV J el es L) {i:Nat} {p p':SA × List AV} (hi:L[i]? = some p) (hn:J.next<=J'.next)
  (hb:∀ b∈oS L,b∉SA.bk p.1->J'.aa b=J.aa b) (ho:∃ n,ba J' el es p'.1 n p'.2) (hf:∀ b∈SA.bk p'.1,b∈SA.bk p.1 ∨ b∉oS L):BV J' el es (L.set i p'):=by
 have aY:=(List.getElem?_eq_some_iff.1 hi).1
 have key:∀ (j:Nat) (q:SA × List AV),(L.set i p')[j]? = some q->(j=i/\q=p') ∨ (j≠i/\L[j]? = some q):=fun j q hq=>by
  rw [List.getElem?_set] at hq
  split at hq
  ·rename_i oT;subst oT;simp at hq;exact .inl ⟨rfl,hq.symm⟩
  ·rename_i oT;exact .inr ⟨fun e=>oT e.symm,hq⟩
 refine ⟨fun q hq=>?_,fun j k q r b hj hk QS QT=>?_⟩
 ·obtain ⟨j,hj⟩:=List.getElem?_of_mem hq
  rcases key j q hj with ⟨_,rfl⟩ |⟨bS,hj⟩
  ·exact ho
  ·obtain ⟨n,ho⟩:=h.own q (List.mem_of_getElem? hj)
   exact ⟨n,ho.of hn fun b dJ=>hb b (gG.2 ⟨q,List.mem_of_getElem? hj,dJ⟩) fun hp=>bS (h.apart j i q p b hj hi dJ hp)⟩
 ·rcases key j q hj with ⟨e1,e2⟩ |⟨bS,qx⟩<;>rcases key k r hk with ⟨e3,e4⟩ |⟨sW,oL⟩
  ·omega
  ·subst e1;subst e2
   rcases hf b QS with g |g
   ·exact absurd (h.apart k j r p b oL hi QT g) sW
   ·exact absurd (gG.2 ⟨r,List.mem_of_getElem? oL,QT⟩) g
  ·subst e3;subst e4
   rcases hf b QT with g |g
   ·exact absurd (h.apart j k q p b qx hi QS g) bS
   ·exact absurd (gG.2 ⟨q,List.mem_of_getElem? qx,QS⟩) g
  ·exact h.apart j k q r b qx oL QS QT
theorem BV.snoc {J:AH O} {el es:Nat} {L:List (SA × List AV)} (h:BV J el es L) {p:SA × List AV} (ho:∃ n,ba J el es p.1 n p.2) (hf:∀ b∈SA.bk p.1,b∉oS L):BV J el es (L++[p]):=by
 have key:∀ (j:Nat) (q:SA × List AV),(L++[p])[j]? = some q->(j=L.length/\q=p) ∨ L[j]? = some q:=fun j q hq=>by
  rw [List.getElem?_append] at hq
  split at hq
  ·exact .inr hq
  ·rename_i aY
   have:=(List.getElem?_eq_some_iff.1 hq).1
   simp at this
   have e:j - L.length=0:=by omega
   rw [e] at hq;simp at hq
   exact .inl ⟨by omega,hq.symm⟩
 refine ⟨fun q hq=>?_,fun j k q r b hj hk QS QT=>?_⟩
 ·rcases List.mem_append.1 hq with hq |hq
  ·exact h.own q hq
  ·simp at hq;subst hq;exact ho
 ·rcases key j q hj with ⟨e1,e2⟩ |qx<;>rcases key k r hk with ⟨e3,e4⟩ |oL
  ·omega
  ·subst e2;exact absurd (gG.2 ⟨r,List.mem_of_getElem? oL,QT⟩) (hf b QS)
  ·subst e4;exact absurd (gG.2 ⟨q,List.mem_of_getElem? qx,QS⟩) (hf b QT)
  ·exact h.apart j k q r b qx oL QS QT
theorem Eu {L:List (SA × List AV)} {i:Nat} {p':SA × List AV} {b:Nat} (h:b∈oS (L.set i p')):b∈SA.bk p'.1 ∨ b∈oS L:=by
 obtain ⟨q,hq,hb⟩:=gG.1 h
 rcases List.mem_or_eq_of_mem_set hq with g |g
 ·exact .inr (gG.2 ⟨q,g,hb⟩)
 ·subst g;exact .inl hb
theorem CX {L L':List (SA × List AV)}:oS (L++L')=oS L++oS L':=by simp [oS]
theorem qX {α:Type} {enc:α->List AV} {k:Nat} (hk:∀ x,(enc x).length=k):∀ l:List α,(l.flatMap enc).length=l.length*k
 |[]=>by simp
 |x::l=>by simp only [List.flatMap_cons,List.length_append,hk,qX hk l,List.length_cons,Nat.succ_mul];omega
theorem I' {α:Type} {enc:α->List AV} {k:Nat} (hk:∀ x,(enc x).length=k):∀ (l:List α) (i j:Nat),j<k->(l.flatMap enc)[i*k+j]? = (l[i]?).bind fun x=>(enc x)[j]?
 |[],i,j,hj=>by simp
 |x::l,0,j,hj=>by
  simp only [List.flatMap_cons,Nat.zero_mul,Nat.zero_add,List.getElem?_cons_zero,Option.bind_some]
  rw [List.getElem?_append_left (by rw [hk];exact hj)]
 |x::l,i+1,j,hj=>by
  simp only [List.flatMap_cons,List.getElem?_cons_succ]
  rw [Nat.succ_mul,List.getElem?_append_right (by rw [hk];omega),hk,show i*k+k+j - k=i*k+j by omega]
  exact I' hk l i j hj
theorem mX {α:Type} {enc:α->List AV} {k:Nat} (hk:∀ x,(enc x).length=k) {l:List α} {i j:Nat} (hj:j<k) {x:α} (hx:l[i]? = some x):(l.flatMap enc)[i*k+j]? = (enc x)[j]? := by
 rw [I' hk l i j hj,hx];rfl
theorem mY {α:Type} {enc:α->List AV} {k:Nat} (hk:∀ x,(enc x).length=k):∀ (l:List α) (i j:Nat) (vs:List AV) (x y:α),l[i]? = some x->j+vs.length<=k->bF (enc x) j vs=enc y->bF (l.flatMap enc) (i*k+j) vs=(l.set i y).flatMap enc
 |[],i,j,vs,x,y,hx,hj,he=>by simp at hx
 |z::l,0,j,vs,x,y,hx,hj,he=>by
  simp only [List.getElem?_cons_zero,Option.some.injEq] at hx
  subst hx
  simp only [List.flatMap_cons,Nat.zero_mul,Nat.zero_add,List.set_cons_zero]
  rw [<-he]
  simp only [bF]
  rw [List.take_append_of_le_length (by rw [hk];omega),List.drop_append_of_le_length (by rw [hk];omega)]
  simp
 |z::l,i+1,j,vs,x,y,hx,hj,he=>by
  simp only [List.getElem?_cons_succ] at hx
  simp only [List.flatMap_cons,List.set_cons_succ]
  rw [<-mY hk l i j vs x y hx hj he]
  simp only [bF]
  rw [show (i+1)*k+j=k+(i*k+j) by rw [Nat.succ_mul];omega]
  rw [List.take_append,List.drop_append,hk,List.take_of_length_le (by rw [hk];omega),List.drop_eq_nil_of_le (by rw [hk];omega)]
  simp only [List.append_assoc,List.nil_append]
  rw [show k+(i*k+j) - k=i*k+j by omega,show k+(i*k+j)+vs.length - k=i*k+j+vs.length by omega]
theorem iq.row {α:Type} {enc:α->List AV} {k n:Nat} (hk:∀ x,(enc x).length=k) {a:SA} {l:List α} (h:iq k a n (l.flatMap enc)) {i:Nat} {x:α} (hx:l[i]? = some x) (Mn:0<k):
  ∃ b o,a=.loc b o k/\∀ (O:Type) (J:AH O) (j:Nat),j<k->J.ld b (o+i*k+j)=(enc x)[j]? := by
 have hi:i<n:=by
  have h1:=h.len
  rw [qX hk] at h1
  have h2:=Nat.eq_of_mul_eq_mul_right Mn h1
  have:=(List.getElem?_eq_some_iff.1 hx).1
  omega
 obtain ⟨b,o,rfl,_⟩:=(h Unit ⟨fun _=>none,0⟩).ref hi
 refine ⟨b,o,rfl,fun O J j hj=>?_⟩
 obtain ⟨b',o',e,h2⟩:=(h O J).ref hi
 cases e
 rw [h2 j hj,mX hk hj hx]
theorem jb {cs:List AV} {i:Nat} {v:AV} (h:i<cs.length):bF cs i [v]=cs.set i v:=by
 rw [List.set_eq_take_append_cons_drop,if_pos h];simp [bF]
theorem Rd.XH {J:AH O} {n:Nat} {a:SA} {cs:List AV} (h:Rd J 1 a n cs) {i:Nat} {v:AV} (hv:cs[i]? = some v):∃ b o,a=.loc b o 1/\J.ld b (o+i*1)=some v:=by
 have hi:i<n:=by
  have:=(List.getElem?_eq_some_iff.1 hv).1
  rw [h.len] at this;omega
 obtain ⟨b,o,rfl,h2⟩:=h.ref hi
 exact ⟨b,o,rfl,by have:=h2 0 (by omega);rwa [Nat.add_zero,Nat.mul_one,Nat.add_zero,hv,<-Nat.mul_one i] at this⟩
def FZ (d:Nat) (H:Nat->Option (dL O)) (L:List Nat) (v v':AV):Prop:=
 ∀ J:AH O,(∀ b∈L,J.aa b=H b)->∃ J',mg d J v=some (v',J')/\J'.next=J.next/\∀ b,J'.aa b=if b∈L then none else J.aa b
def pF (d:Nat) (H:Nat->Option (dL O)) (L:List Nat) (vs lj:List AV):Prop:=
 ∀ J:AH O,(∀ b∈L,J.aa b=H b)->∃ J',nA (mg d) vs J=some (lj,J')/\J'.next=J.next/\∀ b,J'.aa b=if b∈L then none else J.aa b
theorem yy {d:Nat} {J:AH O} {b o es n:Nat}:mg (d+1) J (.sl (.loc (.n b) o es) n)=match J.aa b with
   |some (.cells true _ cs)=>bif Nat.ble (o+n*es) cs.length then (nA (mg d) ((cs.drop o).take (n*es)) (J.kill b)).bind fun r=>some (.sl (.loc (.f r.1) 0 es) n,r.2) else none
   |_=>none:=rfl
theorem pF.nil {d:Nat} {H:Nat->Option (dL O)}:pF d H [] [] []:=fun J _=>⟨J,rfl,rfl,fun b=>by simp⟩
theorem pF.cons {d:Nat} {H:Nat->Option (dL O)} {L1 L2:List Nat} {v v':AV} {vs lj:List AV} (h1:FZ d H L1 v v') (h2:pF d H L2 vs lj) (hd:∀ b∈L1,b∉L2):pF d H (L1++L2) (v::vs) (v'::lj):=fun J hJ=>by
 obtain ⟨J1,e1,n1,b1⟩:=h1 J fun b hb=>hJ b (by simp [hb])
 obtain ⟨J2,e2,n2,b2⟩:=h2 J1 fun b hb=>by rw [b1,if_neg (fun h=>hd b h hb)];exact hJ b (by simp [hb])
 refine ⟨J2,by simp only [nA,e1,e2,Option.bind_some],by omega,fun b=>?_⟩
 rw [b2,b1]
 by_cases g1:b∈L1<;>by_cases g2:b∈L2<;>simp [g1,g2]
theorem pF.XI {d:Nat} {H:Nat->Option (dL O)} {L:List Nat} {v v':AV} {vs lj:List AV} (h1:FZ d H [] v v') (h2:pF d H L vs lj):pF d H L (v::vs) (v'::lj):=by
 have:=pF.cons h1 h2 (by simp)
 simpa using this
def AV.flat:AV->Bool
 |.sl (.loc (.n _) _ _) _=>false
 |.p (some (.n _,_))=>false
 |.agg _=>false
 |.aG _=>false
 |_=>true
theorem FZ.flat {d:Nat} {H:Nat->Option (dL O)} {v:AV} (h:v.flat=true):FZ (d+1) H [] v v:=fun J _=>by
 refine ⟨J,?_,rfl,fun b=>by simp⟩
 unfold mg
 split<;>first |rfl |(simp [AV.flat] at h)
theorem pF.flat {d:Nat} {H:Nat->Option (dL O)}:∀ {vs:List AV},vs.all AV.flat=true->pF (d+1) H [] vs vs
 |[],_=>pF.nil
 |v::vs,h=>by
  simp only [List.all_cons,Bool.and_eq_true] at h
  exact pF.XI (FZ.flat h.1) (pF.flat h.2)
theorem pF.append {d:Nat} {H:Nat->Option (dL O)} {L1 L2:List Nat} {us SQ vs lj:List AV} (h1:pF d H L1 us SQ) (h2:pF d H L2 vs lj) (hd:∀ b∈L1,b∉L2):pF d H (L1++L2) (us++vs) (SQ++lj):=fun J hJ=>by
 have app:∀ (us:List AV) (SQ:List AV) (J J1 J2:AH O),nA (mg d) us J=some (SQ,J1)->nA (mg d) vs J1=some (lj,J2)->nA (mg d) (us++vs) J=some (SQ++lj,J2):=by
  intro us
  induction us with
  |nil=>intro SQ J J1 J2 e1 e2;cases e1;exact e2
  |cons u us ih=>
   intro SQ J J1 J2 e1 e2
   simp only [nA] at e1
   obtain ⟨⟨u1,s1⟩,g1,e1⟩:=Option.bind_eq_some_iff.1 e1
   obtain ⟨⟨us1,s2⟩,g2,e1⟩:=Option.bind_eq_some_iff.1 e1
   cases e1
   simp only [List.cons_append,nA,g1,ih _ _ _ _ g2 e2,Option.bind_some]
 obtain ⟨J1,e1,n1,b1⟩:=h1 J fun b hb=>hJ b (by simp [hb])
 obtain ⟨J2,e2,n2,b2⟩:=h2 J1 fun b hb=>by rw [b1,if_neg (fun h=>hd b h hb)];exact hJ b (by simp [hb])
 refine ⟨J2,app _ _ _ _ _ e1 e2,by omega,fun b=>?_⟩
 rw [b2,b1]
 by_cases g1:b∈L1<;>by_cases g2:b∈L2<;>simp [g1,g2]
theorem FZ.sl {d:Nat} {J:AH O} {H:Nat->Option (dL O)} {L:List Nat} {el es n:Nat} {a:SA} {cs iG:List AV} (h:ba J el es a n cs) (hH:∀ b∈SA.bk a,H b=J.aa b) (hc:pF (d+1) H L cs iG) (hl:iG.length=cs.length) (hd:∀ b∈SA.bk a,b∉L):∃ a',FZ (d+2) H (SA.bk a++L) (.sl a n) (.sl a' n)/\iq es a' n iG:=by
 have hw:=h.wh
 have hlen:=h.len
 have nz:n=0->cs=[]:=fun e=>by subst e;exact List.eq_nil_of_length_eq_zero (by simpa using hlen)
 have e0:n=0->iG=[]:=fun e=>by rw [nz e] at hl;exact List.eq_nil_of_length_eq_zero (by simpa using hl)
 have zero:∀ a:SA,SA.bk a=[]->(a=.nil ∨ a=.z)->n=0->FZ (d+2) H (SA.bk a++L) (.sl a n) (.sl a n):=fun a hb ha hn J1 hJ=>by
  have h0:=nz hn
  subst h0
  obtain ⟨J',e1,n1,b1⟩:=hc J1 (fun b dJ=>hJ b (by simp [dJ]))
  simp only [nA,Option.some.injEq,Prod.mk.injEq] at e1
  obtain ⟨_,rfl⟩:=e1
  refine ⟨J1,?_,rfl,fun b=>by rw [hb,List.nil_append];exact b1 b⟩
  rcases ha with rfl |rfl<;>rfl
 cases a with
 |loc b o e=>
  obtain ⟨k,rfl,rfl,rfl,h3,h4⟩:=hw
  refine ⟨.loc (.f iG) 0 e,fun J1 hJ=>?_,iq.f (by rw [hl];exact hlen)⟩
  have hk:J1.aa k=some (.cells true el cs):=by rw [hJ k (by simp [SA.bk]),hH k (by simp [SA.bk])];exact h3
  obtain ⟨J',e1,n1,b1⟩:=hc (J1.kill k) fun b hb=>by
   have:b≠k:=fun e=>hd k (by simp [SA.bk]) (e▸hb)
   rw [gL,if_neg this];exact hJ b (by simp [hb])
  refine ⟨J',?_,by simpa using n1,fun b=>?_⟩
  ·rw [yy,hk]
   simp only
   rw [Nat.ble_eq_true_of_le (by omega),cond_true,List.drop_zero,List.take_of_length_le (by omega),e1];rfl
  ·rw [b1,gL]
   by_cases g1:b=k<;>by_cases g2:b∈L<;>simp [SA.bk,g1,g2]
 |nil=>exact ⟨.nil,zero .nil rfl (.inl rfl) hw,by have hw:n=0:=hw;subst hw;rw [e0 rfl];exact iq.nil es⟩
 |z=>exact ⟨.z,zero .z rfl (.inr rfl) hw,by have hw:n=0:=hw;subst hw;rw [e0 rfl];exact iq.z es⟩
theorem FZ.agg {d:Nat} {H:Nat->Option (dL O)} {L:List Nat} {vs lj:List AV} (h:pF d H L vs lj):FZ (d+1) H L (.agg vs) (.agg lj):=fun J hJ=>by
 obtain ⟨J',e,n,b⟩:=h J hJ
 exact ⟨J',by simp only [mg,e,Option.bind_some],n,b⟩
theorem FZ.aG {d:Nat} {H:Nat->Option (dL O)} {L:List Nat} {vs lj:List AV} (h:pF d H L vs lj):FZ (d+1) H L (.aG vs) (.aG lj):=fun J hJ=>by
 obtain ⟨J',e,n,b⟩:=h J hJ
 exact ⟨J',by simp only [mg,e,Option.bind_some],n,b⟩
theorem Je {s:Sm O} {xs:List AV} {J:AH O} {Q:AV->Prop} (h:Ok (s xs J) fun r=>∃ v' L,FZ 8 r.2.aa L r.1 v'/\(∀ b∈L,J.next<=b)/\Ext J r.2/\Q v'):Ok (vB s xs J) fun r=>Q r.1/\Ext J r.2:=by
 obtain ⟨⟨v,J1⟩,h1,v',L,h2,h3,h4,h5⟩:=h
 obtain ⟨J2,e,n,b⟩:=h2 J1 fun _ _=>rfl
 refine ⟨(v',J2),by simp only [vB,h1,Option.bind_some,e],h5,by show J.next<=J2.next;rw [n];exact h4.next,fun q hq=>?_⟩
 show J2.aa q=_
 rw [b,if_neg (fun hm=>by have:=h3 q hm;omega)];exact h4.aa q hq
end Go.Abs
