/-
  Trees of plain data: what stands for them in a heap, frozen or owned. No conditions.
-/
import Derived.Test.YtncohicmiihjiaaGreatAbsSl
set_option linter.unusedVariables false
set_option linter.unusedSimpArgs false
set_option linter.constructorNameAsVariable false
namespace Go.Abs
open Go
variable {O:Type}
structure js (J:AH O) (el es:Nat) (a:SA) (n:Nat) (cs:List AV):Prop where
 len:cs.length=n*es
 wh:match a with
  |.loc b o e=>∃ k rest,b=.n k/\o=0/\e=es/\J.aa k=some (.cells true el (cs++rest))/\k<J.next
  |_=>n=0
theorem aY.p {J:AH O} {el es n:Nat} {a:SA} {cs:List AV} (h:aY J el es a n cs):js J el es a n cs:=by
 refine ⟨h.len,?_⟩
 have h2:=h.wh
 cases a with
 |loc b o e=>obtain ⟨k,h1,h2,h3,h4,h5⟩:=h2;exact ⟨k,[],h1,h2,h3,by rw [List.append_nil];exact h4,h5⟩
 |nil=>exact h2
 |z=>exact h2
theorem js.rd {J:AH O} {el es:Nat} {a:SA} {n:Nat} {cs:List AV} (h:js J el es a n cs):Rd J es a n cs:=by
 refine ⟨h.len,?_⟩
 have h2:=h.wh
 have hl:=h.len
 cases a with
 |loc b o e=>
  obtain ⟨k,rest,rfl,rfl,rfl,h3,_⟩:=h2
  exact ⟨rfl,cs++rest,by simp only [AH.cs,h3],by simp;omega,by rw [List.drop_zero,<-hl,List.take_left]⟩
 |nil=>have h2:n=0:=h2;subst h2;exact ⟨rfl,List.eq_nil_of_length_eq_zero (by simpa using hl)⟩
 |z=>have h2:n=0:=h2;subst h2;exact ⟨rfl,List.eq_nil_of_length_eq_zero (by simpa using hl)⟩
theorem js.of {J J':AH O} {el es n:Nat} {a:SA} {cs:List AV} (h:js J el es a n cs) (hn:J.next<=J'.next) (hb:∀ b∈SA.bk a,J'.aa b=J.aa b):js J' el es a n cs:=by
 refine ⟨h.len,?_⟩
 have h2:=h.wh
 cases a with
 |loc b o e=>
  obtain ⟨k,rest,rfl,rfl,rfl,h3,h4⟩:=h2
  exact ⟨k,rest,rfl,rfl,rfl,by rw [hb k (by simp [SA.bk])];exact h3,Nat.lt_of_lt_of_le h4 hn⟩
 |nil=>exact h2
 |z=>exact h2
theorem js.lt {J:AH O} {el es n:Nat} {a:SA} {cs:List AV} (h:js J el es a n cs):∀ b∈SA.bk a,b<J.next:=fun b hb=>by
 have h2:=h.wh
 match a,hb,h2 with
 |.loc (.n c) o e,hb,h2=>
  obtain ⟨k,_,e1,_,_,_,h4⟩:=h2
  cases e1
  simp only [SA.bk,List.mem_singleton] at hb
  subst hb;exact h4
theorem js.loc {J:AH O} {el es n:Nat} {a:SA} {cs:List AV} (h:js J el es a n cs) (hn:n≠0):∃ k rest,a=.loc (.n k) 0 es/\J.aa k=some (.cells true el (cs++rest))/\k<J.next:=by
 have h2:=h.wh
 cases a with
 |loc b o e=>obtain ⟨k,rest,rfl,rfl,rfl,h3,h4⟩:=h2;exact ⟨k,rest,rfl,h3,h4⟩
 |nil=>exact absurd h2 hn
 |z=>exact absurd h2 hn
theorem js.new {J:AH O} {el es n b:Nat} {cs rest:List AV} (hl:cs.length=n*es) (h:J.aa b=some (.cells true el (cs++rest))) (hb:b<J.next):js J el es (.loc (.n b) 0 es) n cs:=⟨hl,b,rest,rfl,rfl,rfl,h,hb⟩
theorem js.less {J:AH O} {el es n m:Nat} {a:SA} {cs:List AV} (h:js J el es a n cs) (hm:m<=n):js J el es a m (cs.take (m*es)):=by
 have hl:=h.len
 have hle:m*es<=n*es:=Nat.mul_le_mul_right _ hm
 refine ⟨by simp;omega,?_⟩
 have h2:=h.wh
 cases a with
 |loc b o e=>
  obtain ⟨k,rest,h1,h2,h3,h4,h5⟩:=h2
  exact ⟨k,cs.drop (m*es)++rest,h1,h2,h3,by rw [<-List.append_assoc,List.take_append_drop];exact h4,h5⟩
 |nil=>have h2:n=0:=h2;show m=0;omega
 |z=>have h2:n=0:=h2;show m=0;omega
theorem Of {J:AH O} {nid el es n m:Nat} {a:SA} {cs new:List AV} (h:js J el es a n cs) (db:nid∉SA.bk a) (bp:nid<J.next) (hm:new.length=m*es):
  Ok (J.cF nid el es a n m new) fun r=>∃ a',r.1=.sl a' (n+m)/\js r.2 el es a' (n+m) (cs++new)/\r.2.next=J.next/\(∀ b,b≠nid->b∉SA.bk a->r.2.aa b=J.aa b)/\∀ b∈SA.bk a',b=nid:=by
 have hw:=h.wh
 have hl:=h.len
 have hmul:(n+m)*es=n*es+m*es:=Nat.add_mul _ _ _
 cases a with
 |loc b o vj=>
  obtain ⟨k,rest,rfl,rfl,rfl,h3,h4⟩:=hw
  have hc:(Nat.beq el el && Nat.ble (0+n*vj) (cs++rest).length)=true:=by
   rw [wZ,Bool.true_and];exact Nat.ble_eq_true_of_le (by simp;omega)
  simp only [AH.cF,h3,hc,cond_true]
  have ht:((cs++rest).drop 0).take (n*vj)=cs:=by rw [List.drop_zero,<-hl,List.take_left]
  rw [ht]
  refine U.2 ⟨_,rfl,js.new (rest:=[]) (by simp [hl,hm,hmul]) (by simp) bp,rfl,fun q hq Cy=>?_,fun b dI=>by simpa [SA.bk] using dI⟩
  have:q≠k:=fun e=>Cy (by simp [SA.bk,e])
  simp [hq,this]
 |nil=>
  have hS:aY J el es .nil n cs:=⟨hl,hw⟩
  exact (jf hS db bp hm).mono fun r ⟨a',g1,g2,g3,g4,g5⟩=>⟨a',g1,g2.p,g3,g4,g5⟩
 |z=>
  have hS:aY J el es .z n cs:=⟨hl,hw⟩
  exact (jf hS db bp hm).mono fun r ⟨a',g1,g2,g3,g4,g5⟩=>⟨a',g1,g2.p,g3,g4,g5⟩
theorem FZ.slP {d:Nat} {J:AH O} {H:Nat->Option (eY O)} {L:List Nat} {el es n:Nat} {a:SA} {cs iI:List AV} (h:js J el es a n cs) (hH:∀ b∈SA.bk a,H b=J.aa b) (hc:pU (d+1) H L cs iI) (hl:iI.length=cs.length) (hd:∀ b∈SA.bk a,b∉L):∃ a',FZ (d+2) H (SA.bk a++L) (.sl a n) (.sl a' n)/\iu es a' n iI:=by
 have hw:=h.wh
 have hlen:=h.len
 cases a with
 |loc b o e=>
  obtain ⟨k,rest,rfl,rfl,rfl,h3,h4⟩:=hw
  refine ⟨.loc (.f iI) 0 e,fun J1 hJ=>?_,iu.f (by rw [hl];exact hlen)⟩
  have hk:J1.aa k=some (.cells true el (cs++rest)):=by rw [hJ k (by simp [SA.bk]),hH k (by simp [SA.bk])];exact h3
  obtain ⟨J',e1,n1,b1⟩:=hc (J1.kill k) fun b hb=>by
   have:b≠k:=fun e=>hd k (by simp [SA.bk]) (e▸hb)
   rw [gL,if_neg this];exact hJ b (by simp [hb])
  refine ⟨J',?_,by simpa using n1,fun b=>?_⟩
  ·rw [yA,hk]
   simp only
   rw [Nat.ble_eq_true_of_le (by simp;omega),cond_true,List.drop_zero,<-hlen,List.take_left,e1];rfl
  ·rw [b1,gL]
   by_cases g1:b=k<;>by_cases g2:b∈L<;>simp [SA.bk,g1,g2]
 |nil=>exact FZ.sl (J:=J) (el:=el) ⟨hlen,hw⟩ hH hc hl hd
 |z=>exact FZ.sl (J:=J) (el:=el) ⟨hlen,hw⟩ hH hc hl hd
inductive TV where
 |lf (v:AV)
 |sl (el es n:Nat) (cs:List TV)
mutual
inductive Im:TV->AV->Prop
 |lf {v:AV} (h:v.flat=true):Im (.lf v) v
 |sl {el es n:Nat} {cs:List TV} {a:SA} {vs:List AV} (h:iu es a n vs) (hc:fF cs vs):Im (.sl el es n cs) (.sl a n)
inductive fF:List TV->List AV->Prop
 |nil:fF [] []
 |cons {t:TV} {v:AV} {ts:List TV} {vs:List AV} (h:Im t v) (hc:fF ts vs):fF (t::ts) (v::vs)
end
mutual
inductive Ow (J:AH O):TV->AV->List Nat->Prop
 |im {t:TV} {v:AV} (h:Im t v):Ow J t v []
 |sl {el es n:Nat} {cs:List TV} {a:SA} {vs:List AV} {L:List Nat} (h:js J el es a n vs) (hc:dy J cs vs L) (hd:∀ b∈SA.bk a,b∉L):Ow J (.sl el es n cs) (.sl a n) (SA.bk a++L)
inductive dy (J:AH O):List TV->List AV->List Nat->Prop
 |nil:dy J [] [] []
 |cons {t:TV} {v:AV} {ts:List TV} {vs:List AV} {L1 L2:List Nat} (h:Ow J t v L1) (hc:dy J ts vs L2) (hd:∀ b∈L1,b∉L2):dy J (t::ts) (v::vs) (L1++L2)
end
theorem iu.flat {es n:Nat} {a:SA} {vs:List AV} (h:iu es a n vs):(AV.sl a n).flat=true:=by
 have hb:=h.bk
 match a,hb with
 |.nil,_=>rfl
 |.z,_=>rfl
 |.loc (.f _) _ _,_=>rfl
 |.loc (.n b) _ _,hb=>simp [SA.bk] at hb
theorem Im.flat {t:TV} {v:AV} (h:Im t v):v.flat=true:=by
 cases h with
 |lf h=>exact h
 |sl h hc=>exact h.flat
theorem fF.flat:∀ {ts:List TV} {vs:List AV},fF ts vs->vs.all AV.flat=true
 |_,_,.nil=>rfl
 |_,_,.cons h hc=>by simp [h.flat,hc.flat]
theorem fF.len:∀ {ts:List TV} {vs:List AV},fF ts vs->vs.length=ts.length
 |_,_,.nil=>rfl
 |_,_,.cons h hc=>by simp [hc.len]
theorem fF.get:∀ {ts:List TV} {vs:List AV},fF ts vs->∀ {i:Nat} {t:TV},ts[i]? = some t->∃ v,vs[i]? = some v/\Im t v
 |_,_,.nil,i,t,h=>by simp at h
 |_,_,.cons h hc,0,t,e=>by simp at e;subst e;exact ⟨_,rfl,h⟩
 |_,_,.cons h hc,i+1,t,e=>hc.get (i:=i) (by simpa using e)
theorem fF.app:∀ {ts us:List TV} {vs ws:List AV},fF ts vs->fF us ws->fF (ts++us) (vs++ws)
 |_,_,_,_,.nil,k=>k
 |_,_,_,_,.cons h hc,k=>.cons h (hc.app k)
theorem fF.drop:∀ {ts:List TV} {vs:List AV} (n:Nat),fF ts vs->fF (ts.drop n) (vs.drop n)
 |_,_,0,h=>by simpa using h
 |_,_,n+1,.nil=>.nil
 |_,_,n+1,.cons h hc=>by simpa using hc.drop n
theorem fF.take:∀ {ts:List TV} {vs:List AV} (n:Nat),fF ts vs->fF (ts.take n) (vs.take n)
 |_,_,0,h=>by simpa using fF.nil
 |_,_,n+1,.nil=>.nil
 |_,_,n+1,.cons h hc=>by simpa using fF.cons h (hc.take n)
theorem fF.EN:∀ {vs:List AV},vs.all AV.flat=true->fF (vs.map TV.lf) vs
 |[],_=>.nil
 |v::vs,h=>by
  simp only [List.all_cons,Bool.and_eq_true] at h
  exact .cons (.lf h.1) (fF.EN h.2)
theorem dy.im {J:AH O}:∀ {ts:List TV} {vs:List AV},fF ts vs->dy J ts vs []
 |_,_,.nil=>.nil
 |_,_,.cons h hc=>by simpa using dy.cons (.im h) (dy.im hc) (by simp)
theorem dy.len {J:AH O}:∀ {ts:List TV} {vs:List AV} {L:List Nat},dy J ts vs L->vs.length=ts.length
 |_,_,_,.nil=>rfl
 |_,_,_,.cons h hc hd=>by simp [hc.len]
mutual
theorem Ow.of {J J':AH O} (hn:J.next<=J'.next):∀ {t:TV} {v:AV} {L:List Nat},Ow J t v L->(∀ b∈L,J'.aa b=J.aa b)->Ow J' t v L
 |_,_,_,.im h,_=>.im h
 |_,_,_,.sl h hc hd,hb=>.sl (h.of hn fun b hm=>hb b (List.mem_append_left _ hm)) (hc.of hn fun b hm=>hb b (List.mem_append_right _ hm)) hd
theorem dy.of {J J':AH O} (hn:J.next<=J'.next):∀ {ts:List TV} {vs:List AV} {L:List Nat},dy J ts vs L->(∀ b∈L,J'.aa b=J.aa b)->dy J' ts vs L
 |_,_,_,.nil,_=>.nil
 |_,_,_,.cons h hc hd,hb=>.cons (h.of hn fun b hm=>hb b (List.mem_append_left _ hm)) (hc.of hn fun b hm=>hb b (List.mem_append_right _ hm)) hd
end
mutual
theorem Ow.lt {J:AH O}:∀ {t:TV} {v:AV} {L:List Nat},Ow J t v L->∀ b∈L,b<J.next
 |_,_,_,.im h,b,hb=>by simp at hb
 |_,_,_,.sl h hc hd,b,hb=>(List.mem_append.1 hb).elim (h.lt b) (hc.lt b)
theorem dy.lt {J:AH O}:∀ {ts:List TV} {vs:List AV} {L:List Nat},dy J ts vs L->∀ b∈L,b<J.next
 |_,_,_,.nil,b,hb=>by simp at hb
 |_,_,_,.cons h hc hd,b,hb=>(List.mem_append.1 hb).elim (h.lt b) (hc.lt b)
end
def TV.deep:TV->Nat->Prop
 |.lf _,_=>True
 |.sl _ _ _ _,0=>False
 |.sl _ _ _ cs,d+1=>∀ t∈cs,t.deep d
mutual
theorem Ow.fz {J:AH O}:∀ {t:TV} {v:AV} {L:List Nat} {d:Nat},Ow J t v L->t.deep d->∃ v',FZ (d+1) J.aa L v v'/\Im t v'
 |_,v,_,d,.im h,_=>⟨v,FZ.flat h.flat,h⟩
 |_,_,_,0,.sl h hc hd,QN=>by unfold TV.deep at QN;exact QN.elim
 |_,_,_,d+1,.sl h hc hd,QN=>by
  unfold TV.deep at QN
  obtain ⟨lA,g1,g2⟩:=hc.fz QN
  obtain ⟨a',k1,k2⟩:=FZ.slP h (fun _ _=>rfl) g1 (by rw [g2.len,hc.len]) hd
  exact ⟨_,k1,.sl k2 g2⟩
theorem dy.fz {J:AH O}:∀ {ts:List TV} {vs:List AV} {L:List Nat} {d:Nat},dy J ts vs L->(∀ t∈ts,t.deep d)->∃ lA,pU (d+1) J.aa L vs lA/\fF ts lA
 |_,_,_,d,.nil,_=>⟨[],pU.nil,.nil⟩
 |_,_,_,d,.cons h hc hd,QN=>by
  obtain ⟨v',g1,g2⟩:=h.fz (QN _ List.mem_cons_self)
  obtain ⟨lA,k1,k2⟩:=hc.fz fun t ht=>QN t (List.mem_cons_of_mem _ ht)
  exact ⟨v'::lA,pU.cons g1 k1 hd,.cons g2 k2⟩
end
theorem dy.app {J:AH O}:∀ {ts us:List TV} {vs ws:List AV} {L K:List Nat},dy J ts vs L->dy J us ws K->(∀ b∈L,b∉K)->dy J (ts++us) (vs++ws) (L++K)
 |_,_,_,_,_,_,.nil,k,_=>k
 |_,_,_,_,_,_,.cons h hc hd,k,hk=>by
  rw [List.append_assoc]
  exact .cons h (hc.app k fun b hb=>hk b (List.mem_append_right _ hb)) fun b hb hm=>(List.mem_append.1 hm).elim (hd b hb) (hk b (List.mem_append_left _ hb))
theorem dy.split {J:AH O}:∀ {ts:List TV} {vs:List AV} {L:List Nat} {i:Nat} {t:TV},dy J ts vs L->ts[i]? = some t->
  ∃ v L1 L2 L3,vs[i]? = some v/\Ow J t v L2/\L=L1++(L2++L3)/\(∀ b∈L2,b∉L1/\b∉L3)/\
   ∀ (J':AH O) (t':TV) (v':AV) (L':List Nat),J.next<=J'.next->(∀ b,b∈L1 ∨ b∈L3->J'.aa b=J.aa b)->Ow J' t' v' L'->(∀ b∈L',b∉L1/\b∉L3)->dy J' (ts.set i t') (vs.set i v') (L1++(L'++L3))
 |_,_,_,i,t,.nil,e=>by simp at e
 |_,_,_,0,t,.cons (L1:=A) (L2:=B) h hc hd,e=>by
  simp at e
  subst e
  refine ⟨_,[],A,B,rfl,h,rfl,fun b hb=>⟨by simp,hd b hb⟩,fun J' t' v' L' hn hb ho hl=>?_⟩
  show dy J' _ _ (L'++B)
  exact .cons ho (hc.of hn fun b hm=>hb b (.inr hm)) fun b hm=>(hl b hm).2
 |_,_,_,i+1,t,.cons (L1:=A) h hc hd,e=>by
  obtain ⟨v,L1,L2,L3,g1,g2,rfl,g4,g5⟩:=hc.split (i:=i) (by simpa using e)
  refine ⟨v,A++L1,L2,L3,by simpa using g1,g2,by simp,fun b hb=>⟨fun hm=>?_,(g4 b hb).2⟩,fun J' t' v' L' hn hb ho hl=>?_⟩
  ·rcases List.mem_append.1 hm with hm |hm
   ·exact hd b hm (by simp [hb])
   ·exact (g4 b hb).1 hm
  ·rw [List.append_assoc]
   refine .cons (h.of hn fun b hm=>hb b (.inl (List.mem_append_left _ hm))) (g5 J' t' v' L' hn (fun b hm=>hb b (hm.imp (List.mem_append_right _) id)) ho fun b hm=>⟨fun h1=>(hl b hm).1 (List.mem_append_right _ h1),(hl b hm).2⟩) fun b hm WH=>?_
   rcases List.mem_append.1 WH with h1 |h1
   ·exact hd b hm (by simp [h1])
   ·rcases List.mem_append.1 h1 with h1 |h1
    ·exact (hl b h1).1 (List.mem_append_left _ hm)
    ·exact hd b hm (by simp [h1])
theorem dy.get {J:AH O} {ts:List TV} {vs:List AV} {L:List Nat} (h:dy J ts vs L) {i:Nat} {t:TV} (e:ts[i]? = some t):∃ v L',vs[i]? = some v/\Ow J t v L'/\∀ b∈L',b∈L:=by
 obtain ⟨v,L1,L2,L3,g1,g2,rfl,_,_⟩:=h.split e
 exact ⟨v,L2,g1,g2,fun b hb=>by simp [hb]⟩
theorem Ow.leaf {J:AH O} {x v:AV} {L:List Nat} (h:Ow J (.lf x) v L):v=x/\L=[]:=by
 cases h with
 |im h=>cases h with |lf h=>exact ⟨rfl,rfl⟩
theorem Ow.rd {J:AH O} {el es n:Nat} {cs:List TV} {v:AV} {L:List Nat} (h:Ow J (.sl el es n cs) v L):∃ a vs L',v=.sl a n/\Rd J es a n vs/\dy J cs vs L'/\(∀ b∈L',b∈L)/\∀ b∈SA.bk a,b∈L:=by
 cases h with
 |im h=>cases h with |sl h hc=>exact ⟨_,_,[],rfl,h O J,.im hc,by simp,by rw [h.bk];simp⟩
 |sl h hc hd=>exact ⟨_,_,_,rfl,h.rd,hc,fun b hb=>List.mem_append_right _ hb,fun b hb=>List.mem_append_left _ hb⟩
theorem Im.rd {el es n:Nat} {cs:List TV} {v:AV} (h:Im (.sl el es n cs) v):∃ a vs,v=.sl a n/\iu es a n vs/\fF cs vs:=by
 cases h with |sl h hc=>exact ⟨_,_,rfl,h,hc⟩
theorem Im.leaf {x v:AV} (h:Im (.lf x) v):v=x:=by cases h;rfl
theorem fF.qq:∀ {xs vs:List AV},fF (xs.map TV.lf) vs->vs=xs
 |[],_,h=>by cases h;rfl
 |x::xs,_,h=>by
  cases h with
  |cons h hc=>rw [h.leaf,hc.qq]
theorem dy.qq {J:AH O}:∀ {xs vs:List AV} {L:List Nat},dy J (xs.map TV.lf) vs L->vs=xs/\L=[]
 |[],_,_,h=>by cases h;exact ⟨rfl,rfl⟩
 |x::xs,_,_,h=>by
  cases h with
  |cons h hc hd=>
   obtain ⟨rfl,rfl⟩:=h.leaf
   obtain ⟨rfl,rfl⟩:=hc.qq
   exact ⟨rfl,rfl⟩
theorem yX {α β:Type} {enc:α->List β} {k:Nat} (hk:∀ x,(enc x).length=k):∀ l:List α,(l.flatMap enc).length=l.length*k
 |[]=>by simp
 |x::l=>by rw [List.flatMap_cons,List.length_append,hk,yX hk l,List.length_cons,Nat.succ_mul];omega
theorem tB {α β:Type} {enc:α->List β} {k:Nat} (hk:∀ x,(enc x).length=k):∀ (l:List α) (i j:Nat),j<k->(l.flatMap enc)[i*k+j]? = (l[i]?).bind fun x=>(enc x)[j]?
 |[],i,j,h=>by simp
 |x::l,0,j,h=>by rw [List.flatMap_cons,Nat.zero_mul,Nat.zero_add,List.getElem?_append_left (by rw [hk];exact h)];rfl
 |x::l,i+1,j,h=>by
  rw [List.flatMap_cons,List.getElem?_append_right (by rw [hk,Nat.succ_mul];omega),hk,show (i+1)*k+j - k=i*k+j by rw [Nat.succ_mul];omega,tB hk l i j h]
  simp
theorem aY.set {J J':AH O} {el es n:Nat} {a:SA} {cs:List AV} {o:Nat} {v:AV} (h:aY J el es a n cs) {b:Nat} (ha:a=.loc (.n b) 0 es) (hs:J'=J.put b (.cells true el (cs.set o v))):aY J' el es a n (cs.set o v):=by
 subst ha;subst hs
 obtain ⟨k,e1,_,_,h3,h4⟩:=h.wh
 cases e1
 exact aY.new (by rw [List.length_set];exact h.len) (by simp [AH.put]) (by simpa using h4)
theorem uI {α:Type} {l:List α} {i:Nat} {x:α} (h:l[i]? = some x):l.set i x=l:=by
 apply List.ext_getElem?
 intro j
 rw [List.getElem?_set]
 by_cases c:i=j
 ·subst c
  rw [if_pos rfl,if_pos (List.getElem?_eq_some_iff.1 h).1,h]
 ·rw [if_neg c]
theorem eI {k:IntKind} (l:List Int):(l.map (AV.i k)).all AV.flat=true:=by simp [AV.flat]
theorem Ow.leaves {J:AH O} {el es n:Nat} {a:SA} {xs:List AV} (h:aY J el es a n xs) (hx:xs.all AV.flat=true):Ow J (.sl el es n (xs.map TV.lf)) (.sl a n) (SA.bk a):=by
 have:=Ow.sl h.p (dy.im (fF.EN hx)) (by simp)
 simpa using this
theorem FZ.pre {d:Nat} {J:AH O} {H:Nat->Option (eY O)} {L:List Nat} {el es n k:Nat} {cs iI:List AV} (hb:J.aa k=some (.cells true el cs)) (hH:H k=J.aa k) (hn:n*es<=cs.length) (hc:pU (d+1) H L (cs.take (n*es)) iI) (hl:iI.length=n*es) (hd:k∉L):
  FZ (d+2) H (k::L) (.sl (.loc (.n k) 0 es) n) (.sl (.loc (.f iI) 0 es) n)/\iu es (.loc (.f iI) 0 es) n iI:=by
 refine ⟨fun J1 hJ=>?_,iu.f hl⟩
 have hk:J1.aa k=some (.cells true el cs):=by rw [hJ k (by simp),hH];exact hb
 obtain ⟨J',e1,n1,b1⟩:=hc (J1.kill k) fun b hb=>by
  have:b≠k:=fun e=>hd (e▸hb)
  rw [gL,if_neg this];exact hJ b (by simp [hb])
 refine ⟨J',?_,by simpa using n1,fun b=>?_⟩
 ·rw [yA,hk]
  simp only
  rw [Nat.ble_eq_true_of_le (by omega),cond_true,List.drop_zero,e1];rfl
 ·rw [b1,gL]
  by_cases g1:b=k<;>by_cases g2:b∈L<;>simp [g1,g2]
end Go.Abs
namespace Go.Abs
open Go
variable {O:Type}
structure Row {α:Type} (row:α->List TV) (k:Nat) (a:SA) (l:List α):Prop where
 hk:∀ x,(row x).length=k
 it:∃ vs,iu k a l.length vs/\fF (l.flatMap row) vs
theorem Row.im {α:Type} {row:α->List TV} {k:Nat} {a:SA} {l:List α} (h:Row row k a l) (el:Nat):Im (.sl el k l.length (l.flatMap row)) (.sl a l.length):=by
 obtain ⟨vs,h1,h2⟩:=h.it;exact .sl h1 h2
theorem Row.bk {α:Type} {row:α->List TV} {k:Nat} {a:SA} {l:List α} (h:Row row k a l):SA.bk a=[]:=by
 obtain ⟨vs,h1,h2⟩:=h.it;exact h1.bk
theorem Row.of {α:Type} {row:α->List TV} {k el n:Nat} {l:List α} {v:AV} (hk:∀ x,(row x).length=k) (h:Im (.sl el k n (l.flatMap row)) v) (hn:n=l.length):∃ a,v=.sl a l.length/\Row row k a l:=by
 subst hn
 obtain ⟨a,vs,rfl,h1,h2⟩:=h.rd
 exact ⟨a,rfl,hk,vs,h1,h2⟩
theorem Row.nil {α:Type} {row:α->List TV} {k:Nat} (hk:∀ x,(row x).length=k):Row row k .nil []:=⟨hk,[],iu.nil k,.nil⟩
theorem Row.get {α:Type} {row:α->List TV} {k:Nat} {a:SA} {l:List α} (h:Row row k a l) {i:Nat} {x:α} (hx:l[i]? = some x):
  ∃ b o us,a=.loc b o k/\fF (row x) us/\∀ (O:Type) (J:AH O) (j:Nat),j<k->J.ld b (o+i*k+j)=us[j]? := by
 obtain ⟨vs,h1,h2⟩:=h.it
 have hi:=(List.getElem?_eq_some_iff.1 hx).1
 obtain ⟨b,o,rfl,_⟩:=(h1 Unit ⟨fun _=>none,0⟩).ref hi
 have hlen:=h1.len
 have hle:i*k+k<=l.length*k:=by rw [<-Nat.succ_mul];exact Nat.mul_le_mul_right _ hi
 refine ⟨b,o,(vs.drop (i*k)).take k,rfl,?_,fun O J j hj=>?_⟩
 ·have:=(h2.drop (i*k)).take k
  have e:((l.flatMap row).drop (i*k)).take k=row x:=by
   apply List.ext_getElem?
   intro j
   rw [List.getElem?_take]
   split
   ·rename_i hj
    rw [List.getElem?_drop,tB h.hk _ _ _ hj,hx];rfl
   ·rename_i hj
    rw [List.getElem?_eq_none]
    rw [h.hk];omega
  rw [e] at this;exact this
 ·obtain ⟨b',o',e,h3⟩:=(h1 O J).ref hi
  cases e
  rw [h3 j hj,List.getElem?_take,if_pos hj,List.getElem?_drop]
theorem Row.all {α:Type} {row:α->List TV} {k:Nat} {a:SA} {l:List α} (h:Row row k a l):∃ vs,vs.length=l.length*k/\fF (l.flatMap row) vs/\∀ (O:Type) (J:AH O),J.bT a l.length k=some vs:=by
 obtain ⟨vs,h1,h2⟩:=h.it
 exact ⟨vs,h1.len,h2,fun O J=>(h1 O J).bT⟩
theorem rT {α:Type} {row:α->List TV} {k:Nat} (hk:∀ x,(row x).length=k):∀ (l:List α) (i:Nat),(l.drop i).flatMap row=(l.flatMap row).drop (i*k)
 |l,0=>by simp
 |[],i+1=>by simp
 |x::l,i+1=>by
  rw [List.drop_succ_cons,rT hk l i,List.flatMap_cons,List.drop_append,List.drop_eq_nil_of_le (as:=row x) (by rw [hk,Nat.succ_mul];omega),hk,Nat.succ_mul,Nat.add_sub_cancel];rfl
theorem np {α:Type} {row:α->List TV} {k:Nat} (hk:∀ x,(row x).length=k):∀ (l:List α) (i:Nat),(l.take i).flatMap row=(l.flatMap row).take (i*k)
 |l,0=>by simp
 |[],i+1=>by simp
 |x::l,i+1=>by
  rw [List.take_succ_cons,List.flatMap_cons,List.flatMap_cons,np hk l i,List.take_append,hk,List.take_of_length_le (l:=row x) (by rw [hk,Nat.succ_mul];omega),Nat.succ_mul,Nat.add_sub_cancel]
theorem Row.part {α:Type} {row:α->List TV} {k:Nat} {a:SA} {l:List α} (h:Row row k a l) {lo n:Nat} (hn:lo+n<=l.length):∃ a',a.B4 lo k=some a'/\Row row k a' ((l.drop lo).take n):=by
 obtain ⟨vs,h1,h2⟩:=h.it
 obtain ⟨a',g1,g2⟩:=h1.B4 hn
 refine ⟨a',g1,h.hk,(vs.drop (lo*k)).take (n*k),?_,?_⟩
 ·have:((l.drop lo).take n).length=n:=by simp;omega
  rw [this];exact g2
 ·rw [np h.hk,rT h.hk]
  exact (h2.drop _).take _
def nI (k:IntKind) (n:Int):List TV:=[.lf (.i k n)]
theorem ku (k:IntKind) (n:Int):(nI k n).length=1:=rfl
theorem dA (k:IntKind):∀ l:List Int,l.flatMap (nI k)=(l.map (AV.i k)).map TV.lf
 |[]=>rfl
 |x::l=>by rw [List.flatMap_cons,dA k l];rfl
abbrev Ints (k:IntKind) (a:SA) (l:List Int):Prop:=Row (nI k) 1 a l
theorem Ints.mk {k:IntKind} {a:SA} {l:List Int} (h:iu 1 a l.length (l.map (AV.i k))):Ints k a l:=⟨ku k,_,h,by rw [dA];exact fF.EN (eI l)⟩
theorem Ints.Vw {k:IntKind} {a:SA} {l:List Int} (h:Ints k a l):iu 1 a l.length (l.map (AV.i k)):=by
 obtain ⟨vs,h1,h2⟩:=h.it
 rw [dA] at h2
 rw [h2.qq] at h1;exact h1
theorem Ints.at {k:IntKind} {a:SA} {l:List Int} (h:Ints k a l) {i:Nat} {x:Int} (hx:l[i]? = some x):∃ b o,a=.loc b o 1/\∀ (O:Type) (J:AH O),J.ld b (o+i)=some (.i k x):=by
 obtain ⟨b,o,us,e,h1,h2⟩:=h.get hx
 refine ⟨b,o,e,fun O J=>?_⟩
 have:=h2 O J 0 (by decide)
 rw [Nat.mul_one,Nat.add_zero] at this
 rw [this]
 cases h1 with
 |cons h1 hc=>rw [h1.leaf];rfl
structure sQ {α:Type} (J:AH O) (el k:Nat) (row:α->List TV) (a:SA) (l:List α):Prop where
 hk:∀ x,(row x).length=k
 it:∃ vs,aY J el k a l.length vs/\fF (l.flatMap row) vs
section bld
variable {α:Type} {J:AH O} {el k:Nat} {row:α->List TV} {a:SA} {l:List α}
theorem sQ.nil (J:AH O) (el:Nat) (hk:∀ x,(row x).length=k):sQ J el k row .nil []:=⟨hk,[],aY.nil _ _ _,.nil⟩
theorem sQ.z (J:AH O) (el:Nat) (hk:∀ x,(row x).length=k):sQ J el k row .z []:=⟨hk,[],aY.z _ _ _,.nil⟩
theorem sQ.of {J':AH O} (h:sQ J el k row a l) (hn:J.next<=J'.next) (hb:∀ b∈SA.bk a,J'.aa b=J.aa b):sQ J' el k row a l:=by
 obtain ⟨vs,h1,h2⟩:=h.it;exact ⟨h.hk,vs,h1.of hn hb,h2⟩
theorem sQ.lt (h:sQ J el k row a l):∀ b∈SA.bk a,b<J.next:=by obtain ⟨vs,h1,h2⟩:=h.it;exact h1.lt
theorem sQ.ext {J':AH O} (h:sQ J el k row a l) (hE:Ext J J'):sQ J' el k row a l:=h.of hE.next fun b hb=>hE.aa b (h.lt b hb)
theorem sQ.app (h:sQ J el k row a l) {nid:Nat} {new:List AV} {m:List α} (db:nid∉SA.bk a) (bp:nid<J.next) (hm:fF (m.flatMap row) new):
  Ok (J.cF nid el k a l.length m.length new) fun r=>∃ a',r.1=.sl a' (l.length+m.length)/\sQ r.2 el k row a' (l++m)/\r.2.next=J.next/\(∀ b,b≠nid->b∉SA.bk a->r.2.aa b=J.aa b)/\∀ b∈SA.bk a',b=nid:=by
 obtain ⟨vs,h1,h2⟩:=h.it
 refine (jf h1 db bp (by rw [hm.len,yX h.hk])).mono ?_
 rintro ⟨q,J'⟩ ⟨a',g1,g2,g3,g4,g5⟩
 refine ⟨a',g1,⟨h.hk,vs++new,?_,?_⟩,g3,g4,g5⟩
 ·rw [List.length_append];exact g2
 ·rw [List.flatMap_append];exact h2.app hm
theorem sQ.fz {d:Nat} {H:Nat->Option (eY O)} (h:sQ J el k row a l) (hH:∀ b∈SA.bk a,H b=J.aa b):∃ a',FZ (d+2) H (SA.bk a) (.sl a l.length) (.sl a' l.length)/\Row row k a' l:=by
 obtain ⟨vs,h1,h2⟩:=h.it
 obtain ⟨a',g1,g2⟩:=FZ.sl (d:=d) (H:=H) (L:=[]) h1 hH (pU.flat h2.flat) rfl (by simp)
 rw [List.append_nil] at g1
 exact ⟨a',g1,h.hk,vs,g2,h2⟩
theorem sQ.rd (h:sQ J el k row a l):∃ vs,Rd J k a l.length vs/\fF (l.flatMap row) vs:=by
 obtain ⟨vs,h1,h2⟩:=h.it;exact ⟨vs,h1.rd,h2⟩
theorem sQ.get (h:sQ J el k row a l) {i:Nat} {x:α} (hx:l[i]? = some x):∃ b us,a=.loc (.n b) 0 k/\b<J.next/\fF (row x) us/\(∀ j,j<k->J.ld (.n b) (i*k+j)=us[j]?):=by
 obtain ⟨vs,h1,h2⟩:=h.it
 have hi:=(List.getElem?_eq_some_iff.1 hx).1
 obtain ⟨b,rfl,hb,bp⟩:=h1.loc (by omega)
 have hlen:=h1.len
 refine ⟨b,(vs.drop (i*k)).take k,rfl,bp,?_,fun j hj=>?_⟩
 ·have:=(h2.drop (i*k)).take k
  have e:((l.flatMap row).drop (i*k)).take k=row x:=by
   apply List.ext_getElem?
   intro j
   rw [List.getElem?_take]
   split
   ·rename_i hj
    rw [List.getElem?_drop,tB h.hk _ _ _ hj,hx];rfl
   ·rename_i hj
    rw [List.getElem?_eq_none]
    rw [h.hk];omega
  rw [e] at this;exact this
 ·rw [MY,hb,Eg,List.getElem?_take,if_pos hj,List.getElem?_drop]
end bld
theorem sQ.new {α:Type} {J:AH O} {el k b:Nat} {row:α->List TV} (hk:∀ x,(row x).length=k) (h:J.aa b=some (.cells true el [])) (hb:b<J.next):sQ J el k row (.loc (.n b) 0 k) []:=⟨hk,[],aY.new (by simp) h hb,.nil⟩
theorem Row.isNil {α:Type} {row:α->List TV} {k:Nat} {a:SA} {l:List α} (h:Row row k a l) (hn:SA.isNil a=true):a=.nil/\l=[]:=by
 obtain ⟨vs,h1,_⟩:=h.it
 have:=(h1 Unit ⟨fun _=>none,0⟩).wh
 cases a with
 |nil=>exact ⟨rfl,List.eq_nil_of_length_eq_zero this.1⟩
 |z=>cases hn
 |loc b o e=>cases hn
end Go.Abs
namespace Go.Abs
open Go
variable {O:Type}
structure jO (J J':AH O) (ts:List TV) (vs:List AV):Prop where
 e:Ext J J'
 it:∃ L,dy J' ts vs L/\∀ b∈L,J.next<=b
theorem jO.im {J J':AH O} {ts:List TV} {vs:List AV} (h:fF ts vs) (e:Ext J J'):jO J J' ts vs:=⟨e,[],dy.im h,by simp⟩
theorem jO.nil {J J':AH O} (e:Ext J J'):jO J J' [] []:=⟨e,[],.nil,by simp⟩
theorem jO.ext {J0 J J' nS:AH O} {ts:List TV} {vs:List AV} (h:jO J J' ts vs) (e0:Ext J0 J) (e:Ext J' nS):jO J0 nS ts vs:=by
 obtain ⟨h1,L,h2,h3⟩:=h
 exact ⟨(e0.trans h1).trans e,L,h2.of e.next fun b hb=>e.aa b (h2.lt b hb),fun b hb=>Nat.le_trans e0.next (h3 b hb)⟩
theorem jO.dv {J0 J J' nS:AH O} {ts:List TV} {vs:List AV} (h:jO J J' ts vs) (e0:J0.next<=J.next) (e:Ext J0 nS) (hn:J'.next<=nS.next) (hb:∀ b,J.next<=b->b<J'.next->nS.aa b=J'.aa b):jO J0 nS ts vs:=by
 obtain ⟨h1,L,h2,h3⟩:=h
 exact ⟨e,L,h2.of hn fun b hm=>hb b (h3 b hm) (h2.lt b hm),fun b hm=>Nat.le_trans e0 (h3 b hm)⟩
theorem jO.app {J J1 J2:AH O} {ts us:List TV} {vs ws:List AV} (h:jO J J1 ts vs) (k:jO J1 J2 us ws):jO J J2 (ts++us) (vs++ws):=by
 obtain ⟨h1,L,h2,h3⟩:=h
 obtain ⟨k1,K,k2,k3⟩:=k
 refine ⟨h1.trans k1,L++K,(h2.of k1.next fun b hb=>k1.aa b (h2.lt b hb)).app k2 (fun b hb hm=>by have:=h2.lt b hb;have:=k3 b hm;omega),fun b hb=>?_⟩
 rcases List.mem_append.1 hb with hb |hb
 ·exact h3 b hb
 ·exact Nat.le_trans h1.next (k3 b hb)
theorem jO.cons {J J1 J2:AH O} {t:TV} {us:List TV} {v:AV} {ws:List AV} (h:jO J J1 [t] [v]) (k:jO J1 J2 us ws):jO J J2 (t::us) (v::ws):=h.app k
theorem jO.lf {J J':AH O} {x:AV} {us:List TV} {ws:List AV} (hx:x.flat=true) (k:jO J J' us ws):jO J J' (.lf x::us) (x::ws):=
 jO.cons (jO.im (J:=J) (J':=J) (.cons (.lf hx) .nil) (Ext.refl _)) k
theorem jO.still {J J' nS:AH O} {ts:List TV} {vs:List AV} (h:jO J J' ts vs) (hn:J'.next<=nS.next) (hb:∀ b,J.next<=b->b<J'.next->nS.aa b=J'.aa b):∃ L,dy nS ts vs L/\∀ b∈L,J.next<=b:=by
 obtain ⟨h1,L,h2,h3⟩:=h
 exact ⟨L,h2.of hn fun b hm=>hb b (h3 b hm) (h2.lt b hm),h3⟩
theorem jO.sl {J J':AH O} {m el es n:Nat} {a:SA} {cs:List TV} {vs:List AV} (e:Ext J J') (o:js J' el es a n vs) (k:∃ L,dy J' cs vs L/\∀ b∈L,m<=b) (ha:∀ b∈SA.bk a,J.next<=b/\b<m) (hm:J.next<=m):jO J J' [.sl el es n cs] [.sl a n]:=by
 obtain ⟨L,k2,k3⟩:=k
 refine ⟨e,(SA.bk a++L)++[],.cons (.sl o k2 fun b hb hl=>by have:=ha b hb;have:=k3 b hl;omega) .nil (by simp),fun b hb=>?_⟩
 simp only [List.append_nil] at hb
 rcases List.mem_append.1 hb with hb |hb
 ·exact (ha b hb).1
 ·exact Nat.le_trans hm (k3 b hb)
theorem jO.ints {J J':AH O} {el n:Nat} {a:SA} {xs:List AV} (o:aY J' el 1 a n xs) (hx:xs.all AV.flat=true) (e:Ext J J') (ha:∀ b∈SA.bk a,J.next<=b):jO J J' [.sl el 1 n (xs.map TV.lf)] [.sl a n]:=
 ⟨e,SA.bk a++[],.cons (Ow.leaves o hx) .nil (by simp),fun b hb=>ha b (by simpa using hb)⟩
theorem yY {s:Sm O} {xs:List AV} {J:AH O} {ts:List TV} (hd:∀ t∈ts,t.deep 6) (h:Ok (s xs J) fun r=>∃ vs,r.1=.agg vs/\jO J r.2 ts vs):Ok (vk s xs J) fun r=>(∃ vs,r.1=.agg vs/\fF ts vs)/\Ext J r.2:=by
 refine IW (Q:=fun v=>∃ vs,v=.agg vs/\fF ts vs) (h.mono ?_)
 rintro ⟨v,J'⟩ ⟨vs,rfl,h1,L,h2,h3⟩
 obtain ⟨lA,g1,g2⟩:=h2.fz (d:=6) hd
 exact ⟨.agg lA,L,FZ.agg g1,h3,h1,lA,rfl,g2⟩
theorem gT {s:Sm O} {xs:List AV} {J:AH O} {ts:List TV} {rest:List AV} (hd:∀ t∈ts,t.deep 5) (hr:rest.all AV.flat=true) (h:Ok (s xs J) fun r=>∃ vs,r.1=.aB (.agg vs::rest)/\jO J r.2 ts vs):Ok (vk s xs J) fun r=>(∃ vs,r.1=.aB (.agg vs::rest)/\fF ts vs)/\Ext J r.2:=by
 refine IW (Q:=fun v=>∃ vs,v=.aB (.agg vs::rest)/\fF ts vs) (h.mono ?_)
 rintro ⟨v,J'⟩ ⟨vs,rfl,h1,L,h2,h3⟩
 obtain ⟨lA,g1,g2⟩:=h2.fz (d:=5) hd
 have:=pU.cons (FZ.agg g1) (pU.flat (H:=J'.aa) hr) (by simp)
 rw [List.append_nil] at this
 exact ⟨.aB (.agg lA::rest),L,FZ.aB this,h3,h1,lA,rfl,g2⟩
theorem dy.drop {J:AH O}:∀ {ts:List TV} {vs:List AV} {L:List Nat} (n:Nat),dy J ts vs L->∃ L',dy J (ts.drop n) (vs.drop n) L'/\∀ c∈L',c∈L
 |_,_,L,0,h=>⟨L,by simpa using h,fun _ h=>h⟩
 |_,_,_,n+1,.nil=>⟨[],.nil,by simp⟩
 |_,_,_,n+1,.cons h hc hd=>by
  obtain ⟨L',g1,g2⟩:=hc.drop n
  exact ⟨L',by simpa using g1,fun c hm=>List.mem_append_right _ (g2 c hm)⟩
theorem dy.take {J:AH O}:∀ {ts:List TV} {vs:List AV} {L:List Nat} (n:Nat),dy J ts vs L->∃ L',dy J (ts.take n) (vs.take n) L'/\∀ c∈L',c∈L
 |_,_,_,0,h=>⟨[],by simpa using dy.nil,by simp⟩
 |_,_,_,n+1,.nil=>⟨[],by simpa using dy.nil,by simp⟩
 |_,_,_,n+1,.cons (L1:=A) h hc hd=>by
  obtain ⟨L',g1,g2⟩:=hc.take n
  refine ⟨A++L',by simpa using dy.cons h g1 (fun b hb hm=>hd b hb (g2 b hm)),fun c hm=>?_⟩
  rcases List.mem_append.1 hm with hm |hm
  ·exact List.mem_append_left _ hm
  ·exact List.mem_append_right _ (g2 c hm)
theorem sQ.out {α:Type} {J J':AH O} {el k:Nat} {row:α->List TV} {a:SA} {l:List α} (h:sQ J' el k row a l) (e:Ext J J') (ha:∀ b∈SA.bk a,J.next<=b):jO J J' [.sl el k l.length (l.flatMap row)] [.sl a l.length]:=by
 obtain ⟨vs,h1,h2⟩:=h.it
 exact ⟨e,(SA.bk a++[])++[],.cons (.sl h1.p (dy.im h2) (by simp)) .nil (by simp),fun b hb=>ha b (by simpa using hb)⟩
structure gf {α:Type} (base:Nat) (J:AH O) (el k:Nat) (row:α->List TV) (a:SA) (l:List α):Prop where
 hk:∀ x,(row x).length=k
 it:∃ vs L,js J el k a l.length vs/\dy J (l.flatMap row) vs L/\(∀ b∈SA.bk a,b∉L)/\∀ b∈SA.bk a++L,base<=b
section ajw
variable {α:Type} {base:Nat} {J:AH O} {el k:Nat} {row:α->List TV} {a:SA} {l:List α}
theorem gf.nil (base:Nat) (J:AH O) (el:Nat) (hk:∀ x,(row x).length=k):gf base J el k row .nil []:=⟨hk,[],[],(aY.nil _ _ _).p,.nil,by simp [SA.bk],by simp [SA.bk]⟩
theorem gf.z (base:Nat) (J:AH O) (el:Nat) (hk:∀ x,(row x).length=k):gf base J el k row .z []:=⟨hk,[],[],(aY.z _ _ _).p,.nil,by simp [SA.bk],by simp [SA.bk]⟩
theorem gf.new {b:Nat} (hk:∀ x,(row x).length=k) (h:J.aa b=some (.cells true el [])) (hb:b<J.next) (h0:base<=b):gf base J el k row (.loc (.n b) 0 k) []:=⟨hk,[],[],(aY.new (by simp) h hb).p,.nil,by simp,by simp [SA.bk];exact h0⟩
theorem gf.low (h:gf base J el k row a l) {QO:Nat} (hb:QO<=base):gf QO J el k row a l:=by
 obtain ⟨hk,vs,L,h1,h2,h3,h4⟩:=h
 exact ⟨hk,vs,L,h1,h2,h3,fun b hm=>Nat.le_trans hb (h4 b hm)⟩
theorem gf.dv {J':AH O} (h:gf base J el k row a l) (hn:J.next<=J'.next) (hb:∀ b,base<=b->b<J.next->J'.aa b=J.aa b):gf base J' el k row a l:=by
 obtain ⟨hk,vs,L,h1,h2,h3,h4⟩:=h
 exact ⟨hk,vs,L,h1.of hn fun b hm=>hb b (h4 b (List.mem_append_left _ hm)) (h1.lt b hm),h2.of hn fun b hm=>hb b (h4 b (List.mem_append_right _ hm)) (h2.lt b hm),h3,h4⟩
theorem gf.ext {J':AH O} (h:gf base J el k row a l) (e:Ext J J'):gf base J' el k row a l:=h.dv e.next fun b _ hb=>e.aa b hb
theorem gf.bk (h:gf base J el k row a l):∀ b∈SA.bk a,base<=b/\b<J.next:=by
 obtain ⟨hk,vs,L,h1,h2,h3,h4⟩:=h
 exact fun b hb=>⟨h4 b (by simp [hb]),h1.lt b hb⟩
theorem gf.app {J2 J3:AH O} {m:List α} {new:List AV} {nid:Nat} (h:gf base J el k row a l) (hb:base<=J.next) (n:jO J J2 (m.flatMap row) new) (e:Ext J2 J3) (h1:J2.next<=nid) (h2:nid<J3.next):
  Ok (J3.cF nid el k a l.length m.length new) fun r=>∃ a',r.1=.sl a' (l.length+m.length)/\gf base r.2 el k row a' (l++m)/\r.2.next=J3.next/\(∀ b,b≠nid->b∉SA.bk a->r.2.aa b=J3.aa b)/\∀ b∈SA.bk a',b=nid ∨ b∈SA.bk a:=by
 obtain ⟨hk,vs,L,p1,p2,p3,p4⟩:=h
 obtain ⟨e1,K,n1,n2⟩:=n
 have E:=e1.trans e
 have q1:js J3 el k a l.length vs:=p1.of E.next fun b hm=>E.aa b (p1.lt b hm)
 have q2:dy J3 (l.flatMap row) vs L:=p2.of E.next fun b hm=>E.aa b (p2.lt b hm)
 have q3:dy J3 (m.flatMap row) new K:=n1.of e.next fun b hm=>e.aa b (n1.lt b hm)
 have len:=e1.next
 refine (Of q1 (fun hm=>by have:=p1.lt _ hm;omega) h2 (by rw [n1.len,yX hk])).mono ?_
 rintro ⟨q,J4⟩ ⟨a',g1,g2,g3,g4,g5⟩
 simp only at g1 g2 g3 g4
 have all:=q2.app q3 fun b hb hm=>by have:=p2.lt b hb;have:=n2 b hm;omega
 refine ⟨a',g1,⟨hk,vs++new,L++K,?_,?_,fun b hb hm=>?_,fun b hb=>?_⟩,g3,g4,fun b hb=>.inl (g5 b hb)⟩
 ·rw [List.length_append];exact g2
 ·rw [List.flatMap_append]
  refine all.of (by show J3.next<=J4.next;omega) fun b hb=>?_
  rcases List.mem_append.1 hb with hb |hb
  ·exact g4 b (by have:=p2.lt b hb;omega) fun hm=>p3 b hm hb
  ·exact g4 b (by have:=n1.lt b hb;omega) fun hm=>by have:=p1.lt b hm;have:=n2 b hb;omega
 ·have:=g5 b hb
  rcases List.mem_append.1 hm with hm |hm
  ·have:=p2.lt b hm;omega
  ·have:=n1.lt b hm;omega
 ·rcases List.mem_append.1 hb with hb |hb
  ·have:=g5 b hb;omega
  ·rcases List.mem_append.1 hb with hb |hb
   ·exact p4 b (by simp [hb])
   ·have:=n2 b hb;omega
theorem jO.at_ {Ja Jb Jc:AH O} {ts:List TV} {vs:List AV} {p nid:Nat} (h:jO Ja Jb ts vs) (hn:Jb.next<=Jc.next) (hf:∀ b,Ja.next<=b->b<Jb.next->Jc.aa b=Jb.aa b) (h0:p<=Ja.next) (FK:nid<Ja.next ∨ Jb.next<=nid):∃ K,dy Jc ts vs K/\∀ b∈K,p<=b/\b≠nid:=by
 obtain ⟨h1,L,h2,h3⟩:=h
 exact ⟨L,h2.of hn fun b hm=>hf b (h3 b hm) (h2.lt b hm),fun b hm=>⟨Nat.le_trans h0 (h3 b hm),fun e=>by have:=h3 b hm;have:=h2.lt b hm;omega⟩⟩
theorem gf.all (h:gf base J el k row a l):∃ vs K,J.bT a l.length k=some vs/\dy J (l.flatMap row) vs K/\∀ b∈K,base<=b/\b<J.next:=by
 obtain ⟨hk,vs,L,p1,p2,p3,p4⟩:=h
 exact ⟨vs,L,p1.rd.bT,p2,fun b hb=>⟨p4 b (by simp [hb]),p2.lt b hb⟩⟩
theorem gf.out {J0:AH O} (h:gf base J el k row a l) (e:Ext J0 J) (hb:J0.next<=base):jO J0 J [.sl el k l.length (l.flatMap row)] [.sl a l.length]:=by
 obtain ⟨hk,vs,L,h1,h2,h3,h4⟩:=h
 exact ⟨e,(SA.bk a++L)++[],.cons (.sl h1 h2 h3) .nil (by simp),fun b hm=>Nat.le_trans hb (h4 b (by simpa using hm))⟩
theorem gf.get (h:gf base J el k row a l) {i:Nat} {x:α} (hx:l[i]? = some x):∃ b us L,a=.loc (.n b) 0 k/\base<=b/\b<J.next/\dy J (row x) us L/\(∀ c∈L,base<=c/\c<J.next/\c≠b)/\∀ j,j<k->J.ld (.n b) (i*k+j)=us[j]? := by
 obtain ⟨hk,vs,L,h1,h2,h3,h4⟩:=h
 have hi:=(List.getElem?_eq_some_iff.1 hx).1
 obtain ⟨b,rest,rfl,hb,bp⟩:=h1.loc (by omega)
 have hle:i*k+k<=l.length*k:=by rw [<-Nat.succ_mul];exact Nat.mul_le_mul_right _ hi
 have Qk:=h1.len
 obtain ⟨L0,g0,g3⟩:=h2.drop (i*k)
 obtain ⟨L',g1,g4⟩:=g0.take k
 have g2:=fun c hc=>g3 c (g4 c hc)
 have e:((l.flatMap row).drop (i*k)).take k=row x:=by
  apply List.ext_getElem?
  intro j
  rw [List.getElem?_take]
  split
  ·rename_i hj
   rw [List.getElem?_drop,tB hk _ _ _ hj,hx];rfl
  ·rename_i hj
   rw [List.getElem?_eq_none]
   rw [hk];omega
 rw [e] at g1
 refine ⟨b,_,L',rfl,h4 b (by simp [SA.bk]),bp,g1,fun c hc=>⟨h4 c (by simp [g2 c hc]),h2.lt c (g2 c hc),fun e=>h3 b (by simp [SA.bk]) (e▸g2 c hc)⟩,fun j hj=>?_⟩
 rw [MY,hb,Eg,List.getElem?_take,if_pos hj,List.getElem?_drop,List.getElem?_append_left (by omega)]
theorem gf.less (h:gf base J el k row a l) {m:Nat} (hm:m<=l.length):gf base J el k row a (l.take m):=by
 obtain ⟨hk,vs,L,h1,h2,h3,h4⟩:=h
 obtain ⟨L',g1,g2⟩:=h2.take (m*k)
 refine ⟨hk,vs.take (m*k),L',?_,by rw [np hk];exact g1,fun b hb hl=>h3 b hb (g2 b hl),fun b hb=>?_⟩
 ·rw [List.length_take,Nat.min_eq_left hm];exact h1.less hm
 ·rcases List.mem_append.1 hb with hb |hb
  ·exact h4 b (by simp [hb])
  ·exact h4 b (by simp [g2 b hb])
end ajw
end Go.Abs
namespace Go.Abs
open Go
variable {O:Type}
structure HV where
 p:Int
 r:Int
 site:Int
 age:Int
 eu:Bool
 deriving DecidableEq
structure NV where
 h:HV
 P:List Int
 R:List Int
 deriving DecidableEq
structure FV where
 nodes:List NV
 roots:List Int
 IY:List Int
 deriving DecidableEq
def HV.cs (h:HV):List AV:=[.i .i64 h.p,.i .i64 h.r,.i .i64 h.site,.i .i64 h.age,.b h.eu]
def elK:IntKind->Nat |.i64=>3 |.u64=>22 |.u8=>5 |_=>0
def ints (k:IntKind) (l:List Int):TV:=.sl (elK k) 1 l.length (l.flatMap (nI k))
theorem EO {k:IntKind} {l:List Int} {v:AV} (h:Im (ints k l) v):∃ a,v=.sl a l.length/\Ints k a l:=Row.of (ku k) h rfl
theorem EP {k:IntKind} {l:List Int} {a:SA} (h:Ints k a l):Im (ints k l) (.sl a l.length):=h.im _
def NV.row (x:NV):List TV:=x.h.cs.map TV.lf++[ints .i64 x.P,ints .u64 x.R]
theorem NV.len (x:NV):x.row.length=7:=rfl
def NV.cells (x:NV) (a b:SA):List AV:=[.i .i64 x.h.p,.i .i64 x.h.r,.i .i64 x.h.site,.i .i64 x.h.age,.b x.h.eu,.sl a x.P.length,.sl b x.R.length]
theorem NV.un {x:NV} {us:List AV} (h:fF x.row us):∃ a b,us=x.cells a b/\Ints .i64 a x.P/\Ints .u64 b x.R:=by
 unfold NV.row HV.cs at h
 cases h with
 |cons h0 h=>cases h with
 |cons h1 h=>cases h with
 |cons h2 h=>cases h with
 |cons h3 h=>cases h with
 |cons h4 h=>cases h with
 |cons h5 h=>cases h with
 |cons h6 h=>cases h with
 |nil=>
  obtain ⟨a,rfl,ia⟩:=EO h5
  obtain ⟨b,rfl,ib⟩:=EO h6
  rw [h0.leaf,h1.leaf,h2.leaf,h3.leaf,h4.leaf]
  exact ⟨a,b,rfl,ia,ib⟩
theorem NV.KO {x:NV} {a b:SA} (ha:Ints .i64 a x.P) (hb:Ints .u64 b x.R):fF x.row (x.cells a b):=
 .cons (.lf rfl) (.cons (.lf rfl) (.cons (.lf rfl) (.cons (.lf rfl) (.cons (.lf rfl) (.cons (EP ha) (.cons (EP hb) .nil))))))
abbrev Y6 (a:SA) (l:List NV):Prop:=Row NV.row 7 a l
structure FV.At (F:FV) (v:AV):Prop where
 it:∃ a b c,v=.agg [.sl a F.nodes.length,.sl b F.roots.length,.sl c F.IY.length]/\Y6 a F.nodes/\Ints .i64 b F.roots/\Ints .i64 c F.IY
structure NV.bW (x:NV):Prop where
 p:x.P.length<=100000
 r:x.R.length<=100000
structure FV.bW (F:FV):Prop where
 n:F.nodes.length<=100000
 x:∀ x∈F.nodes,x.bW
 r:F.roots.length<=100000
 w:F.IY.length<=100000
end Go.Abs
