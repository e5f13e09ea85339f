/-
  AbsSl: slices in proofs about what is run: reading, appending, writing; what is never written again.
-/
import Derived.Test.YtlgnboohmahbaaaGreatDoorAbsSim
import Derived.Test.YtlgnboohmahbaaaGreatDoorAbsFrz
set_option linter.unusedVariables false
set_option linter.unusedSimpArgs false
set_option linter.constructorNameAsVariable false
namespace Go.Abs
open Go
variable {O:Type}
structure dE (L:List Nat) (σ aj:AH O):Prop where
 next:σ.next ≤ aj.next
 ai:∀ b,b<σ.next → b∉L → aj.ai b=σ.ai b
theorem dE.refl (L:List Nat) (σ:AH O):dE L σ σ:=⟨Nat.le_refl _,fun _ _ _=>rfl⟩
theorem dE.trans {L:List Nat} {σ aj oS:AH O} (h:dE L σ aj) (h':dE L aj oS):dE L σ oS:=
 ⟨Nat.le_trans h.next h'.next,fun b hb hf=>(h'.ai b (Nat.lt_of_lt_of_le hb h.next) hf).trans (h.ai b hb hf)⟩
theorem dE.trans' {L L':List Nat} {σ aj oS:AH O} (h:dE L σ aj) (h':dE L' aj oS) (hl:∀ b∈L',b∈L ∨ σ.next ≤ b):dE L σ oS:=
 ⟨Nat.le_trans h.next h'.next,fun b hb hf=>(h'.ai b (Nat.lt_of_lt_of_le hb h.next) (fun hm=>by rcases hl b hm with q |q;exact hf q;omega)).trans (h.ai b hb hf)⟩
theorem dE.mono {L L':List Nat} {σ aj:AH O} (h:dE L σ aj) (hf:∀ b∈L,b∈L' ∨ σ.next ≤ b):dE L' σ aj:=⟨h.next,fun b hb hn=>h.ai b hb fun h'=>by rcases hf b h' with q |q;exact hn q;omega⟩
theorem Ext.chg {L:List Nat} {σ aj:AH O} (h:Ext σ aj):dE L σ aj:=⟨h.next,fun b hb _=>h.ai b hb⟩
theorem dE.ext {σ aj:AH O} (h:dE [] σ aj):Ext σ aj:=⟨h.next,fun b hb=>h.ai b hb (by simp)⟩
theorem dE.put {L:List Nat} {σ aj:AH O} (h:dE L σ aj) {b:Nat} (hb:b∈L ∨ σ.next ≤ b) (x:oM O):dE L σ (aj.put b x):=
 ⟨h.next,fun c hc hf=>by
  rw [Gz,if_neg (fun e=>by subst e;rcases hb with hb |hb;exact hf hb;omega)]
  exact h.ai c hc hf⟩
theorem dE.bump {L:List Nat} {σ aj:AH O} (h:dE L σ aj) (k:Nat):dE L σ (aj.bump k):=⟨by simp;have:=h.next;omega,h.ai⟩
def AH.cs (σ:AH O):jJ → Option (List AV)
 |.n b=>match σ.ai b with |some (.cells _ _ cs)=>some cs |_=>none
 |.f cs=>some cs
theorem alk {σ:AH O} {b:jJ} {o:Nat}:σ.ld b o=(σ.cs b).bind (·[o]?):=by
 cases b with
 |n b=>
  simp only [AH.ld,AH.cs]
  cases σ.ai b with
  |none=>rfl
  |some x=>cases x<;>rfl
 |f cs=>rfl
def SA.bk:SA → List Nat |.loc (.n b) _ _=>[b] |_=>[]
structure Rd (σ:AH O) (es:Nat) (a:SA) (n:Nat) (cs:List AV):Prop where
 len:cs.length=n*es
 wh:match a with
  |.loc b o N8=>N8=es ∧ ∃ all,σ.cs b=some all ∧ o+n*es ≤ all.length ∧ cs=(all.drop o).take (n*es)
  |.ar _ _ _=>False
  |_=>n=0 ∧ cs=[]
def nh (es:Nat) (a:SA) (n:Nat) (cs:List AV):Prop:=∀ (O:Type) (σ:AH O),Rd σ es a n cs
structure aN (σ:AH O) (el es:Nat) (a:SA) (n:Nat) (cs:List AV):Prop where
 len:cs.length=n*es
 wh:match a with
  |.loc b o e=>∃ k,b=.n k ∧ o=0 ∧ e=es ∧ σ.ai k=some (.cells true el cs) ∧ k<σ.next
  |.ar _ _ _=>False
  |_=>n=0
theorem Rd.of {σ aj:AH O} {es n:Nat} {a:SA} {cs:List AV} (h:Rd σ es a n cs) (hb:∀ b∈SA.bk a,aj.ai b=σ.ai b):Rd aj es a n cs:=by
 refine ⟨h.len,?_⟩
 have h2:=h.wh
 cases a with
 |ar=>exact h2.elim
 |loc b o e=>
  obtain ⟨h1,all,h2,h3⟩:=h2
  refine ⟨h1,all,?_,h3⟩
  cases b with
  |n b=>rw [← h2];simp only [AH.cs];rw [hb b (by simp [SA.bk])]
  |f cs=>exact h2
 |nil=>exact h2
 |z=>exact h2
theorem Rd.old {σ:AH O} {es n:Nat} {a:SA} {cs:List AV} (h:Rd σ es a n cs) (hw:∀ b,σ.next ≤ b → σ.ai b=none):∀ b∈SA.bk a,b<σ.next:=fun b hb=>by
 have h2:=h.wh
 match a,hb,h2 with
 |.loc (.n c) o e,hb,h2=>
  obtain ⟨h1,all,h3,_⟩:=h2
  simp only [SA.bk,List.mem_singleton] at hb
  subst hb
  rcases Nat.lt_or_ge b σ.next with hh |hh
  ·exact hh
  ·simp only [AH.cs,hw b hh] at h3;cases h3
theorem nh.nil (es:Nat):nh es .nil 0 []:=fun _ _=>⟨by simp,rfl,rfl⟩
theorem nh.z (es:Nat):nh es .z 0 []:=fun _ _=>⟨by simp,rfl,rfl⟩
theorem nh.f {es n:Nat} {cs:List AV} (h:cs.length=n*es):nh es (.loc (.f cs) 0 es) n cs:=fun _ _=>⟨h,rfl,cs,rfl,by omega,by rw [List.drop_zero,List.take_of_length_le (by omega)]⟩
theorem nh.len {es n:Nat} {a:SA} {cs:List AV} (h:nh es a n cs):cs.length=n*es:=(h Unit ⟨fun _=>none,0⟩).len
theorem nh.bk {es n:Nat} {a:SA} {cs:List AV} (h:nh es a n cs):SA.bk a=[]:=by
 match a with
 |.nil=>rfl
 |.z=>rfl
 |.ar _ _ _=>exact ((h Unit ⟨fun _=>none,0⟩).wh).elim
 |.loc (.f _) _ _=>rfl
 |.loc (.n b) o e=>
  obtain ⟨_,_,all,h1,_⟩:=h Unit ⟨fun _=>none,0⟩
  simp [AH.cs] at h1
theorem aN.rd {σ:AH O} {el es n:Nat} {a:SA} {cs:List AV} (h:aN σ el es a n cs):Rd σ es a n cs:=by
 refine ⟨h.len,?_⟩
 have h2:=h.wh
 have hl:=h.len
 cases a with
 |ar=>exact h2.elim
 |loc b o e=>
  obtain ⟨k,rfl,rfl,rfl,h3,_⟩:=h2
  exact ⟨rfl,cs,by simp only [AH.cs,h3],by omega,by rw [List.drop_zero,List.take_of_length_le (by omega)]⟩
 |nil=>have h2:n=0:=h2;subst h2;exact ⟨rfl,List.eq_nil_of_length_eq_zero (by simpa using hl)⟩
 |z=>have h2:n=0:=h2;subst h2;exact ⟨rfl,List.eq_nil_of_length_eq_zero (by simpa using hl)⟩
theorem aN.of {σ aj:AH O} {el es n:Nat} {a:SA} {cs:List AV} (h:aN σ el es a n cs) (hn:σ.next ≤ aj.next) (hb:∀ b∈SA.bk a,aj.ai b=σ.ai b):aN aj el es a n cs:=by
 refine ⟨h.len,?_⟩
 have h2:=h.wh
 cases a with
 |ar=>exact h2.elim
 |loc b o e=>
  obtain ⟨k,rfl,rfl,rfl,h3,h4⟩:=h2
  exact ⟨k,rfl,rfl,rfl,by rw [hb k (by simp [SA.bk])];exact h3,Nat.lt_of_lt_of_le h4 hn⟩
 |nil=>exact h2
 |z=>exact h2
theorem aN.lt {σ:AH O} {el es n:Nat} {a:SA} {cs:List AV} (h:aN σ el es a n cs):∀ b∈SA.bk a,b<σ.next:=fun b hb=>by
 have h2:=h.wh
 match a,hb,h2 with
 |.loc (.n c) o e,hb,h2=>
  obtain ⟨k,e1,_,_,_,h4⟩:=h2
  cases e1
  simp only [SA.bk,List.mem_singleton] at hb
  subst hb;exact h4
theorem aN.nil (σ:AH O) (el es:Nat):aN σ el es .nil 0 []:=⟨by simp,rfl⟩
theorem aN.z (σ:AH O) (el es:Nat):aN σ el es .z 0 []:=⟨by simp,rfl⟩
theorem aN.new {σ:AH O} {el es n b:Nat} {cs:List AV} (hl:cs.length=n*es) (h:σ.ai b=some (.cells true el cs)) (hb:b<σ.next):aN σ el es (.loc (.n b) 0 es) n cs:=⟨hl,b,rfl,rfl,rfl,h,hb⟩
theorem aN.loc {σ:AH O} {el es n:Nat} {a:SA} {cs:List AV} (h:aN σ el es a n cs) (hn:n≠0):∃ k,a=.loc (.n k) 0 es ∧ σ.ai k=some (.cells true el cs) ∧ k<σ.next:=by
 have h2:=h.wh
 cases a with
 |ar=>exact h2.elim
 |loc b o e=>obtain ⟨k,rfl,rfl,rfl,h3,h4⟩:=h2;exact ⟨k,rfl,h3,h4⟩
 |nil=>exact absurd h2 hn
 |z=>exact absurd h2 hn
theorem Rd.bC {σ:AH O} {es n:Nat} {a:SA} {cs:List AV} (h:Rd σ es a n cs):σ.bC a n es=some cs:=by
 have h2:=h.wh
 cases a with
 |ar=>exact h2.elim
 |loc b o N8=>
  obtain ⟨rfl,all,h3,h4,h5⟩:=h2
  simp only [AH.bC]
  have hb:Nat.ble (o+n*N8) all.length=true:=Nat.ble_eq_true_of_le h4
  cases b with
  |n b=>
   simp only [AH.cs] at h3
   split at h3
   ·rename_i hx
    cases h3
    simp only [AH.O8,hx,hb,h5,cond_true]
   ·cases h3
  |f c=>cases h3;simp only [AH.O8,hb,h5,cond_true]
 |nil=>obtain ⟨rfl,rfl⟩:=h2;rfl
 |z=>obtain ⟨rfl,rfl⟩:=h2;rfl
theorem Rd.ref {σ:AH O} {es n:Nat} {a:SA} {cs:List AV} (h:Rd σ es a n cs) {i:Nat} (hi:i<n):∃ b o,a=.loc b o es ∧ ∀ j,j<es → σ.ld b (o+i*es+j)=cs[i*es+j]? := by
 have h2:=h.wh
 cases a with
 |ar=>exact h2.elim
 |loc b o N8=>
  obtain ⟨rfl,all,h3,h4,h5⟩:=h2
  refine ⟨b,o,rfl,fun j hj=>?_⟩
  have h6:i*N8+j<n*N8:=by
   have:(i+1)*N8 ≤ n*N8:=Nat.mul_le_mul_right _ hi
   rw [Nat.succ_mul] at this;omega
  rw [alk,h3,h5]
  simp only [Option.bind_some]
  rw [List.getElem?_take,if_pos h6,List.getElem?_drop]
  congr 1;omega
 |nil=>obtain ⟨rfl,_⟩:=h2;omega
 |z=>obtain ⟨rfl,_⟩:=h2;omega
theorem Rd.DD {σ:AH O} {es n lo m:Nat} {a:SA} {cs:List AV} (h:Rd σ es a n cs) (hm:lo+m ≤ n):∃ a',a.DD lo es=some a' ∧ Rd σ es a' m ((cs.drop (lo*es)).take (m*es)) ∧ SA.bk a'=SA.bk a:=by
 have h2:=h.wh
 have hl:=h.len
 have hle:lo*es+m*es ≤ n*es:=by rw [← Nat.add_mul];exact Nat.mul_le_mul_right _ hm
 cases a with
 |ar=>exact h2.elim
 |loc b o N8=>
  obtain ⟨rfl,all,h3,h4,h5⟩:=h2
  refine ⟨.loc b (o+lo*N8) N8,aaU,⟨by simp [hl];omega,rfl,all,h3,by omega,?_⟩,by cases b<;>rfl⟩
  rw [h5]
  rw [List.drop_take,List.take_take,List.drop_drop]
  congr 1;omega
 |nil=>
  obtain ⟨rfl,rfl⟩:=h2
  have:m=0:=by omega
  subst this
  exact ⟨.nil,rfl,⟨by simp,rfl,by simp⟩,rfl⟩
 |z=>
  obtain ⟨rfl,rfl⟩:=h2
  have:m=0:=by omega
  subst this
  exact ⟨.z,rfl,⟨by simp,rfl,by simp⟩,rfl⟩
theorem nh.DD {es n lo m:Nat} {a:SA} {cs:List AV} (h:nh es a n cs) (hm:lo+m ≤ n):∃ a',a.DD lo es=some a' ∧ nh es a' m ((cs.drop (lo*es)).take (m*es)):=by
 obtain ⟨a',h1,h2,_⟩:=(h Unit ⟨fun _=>none,0⟩).DD hm
 refine ⟨a',h1,fun O σ=>?_⟩
 obtain ⟨a2,g1,g2,_⟩:=(h O σ).DD hm
 rw [h1] at g1;cases g1;exact g2
theorem nW {σ:AH O} {nid el es n m:Nat} {a:SA} {cs new:List AV} (h:aN σ el es a n cs) (jL:nid∉SA.bk a) (bS:nid<σ.next) (hm:new.length=m*es):
  Ok (σ.bP nid el es a n m new) fun r=>∃ a',r.1=.sl a' (n+m) ∧ aN r.2 el es a' (n+m) (cs++new) ∧ r.2.next=σ.next ∧ (∀ b,b≠nid → b∉SA.bk a → r.2.ai b=σ.ai b) ∧ ∀ b∈SA.bk a',b=nid:=by
 have hw:=h.wh
 have hl:=h.len
 have hmul:(n+m)*es=n*es+m*es:=Nat.add_mul _ _ _
 have alm:∀ a:SA,SA.bk a=[] → n=0 → (aN σ el es a n cs) → Ok (bif Nat.beq n 0 then (bif Nat.beq m 0 then some (AV.sl a 0,σ) else some (.sl (.loc (.n nid) 0 es) m,σ.put nid (.cells true el new))) else none) fun r=>
   ∃ a',r.1=.sl a' (n+m) ∧ aN r.2 el es a' (n+m) (cs++new) ∧ r.2.next=σ.next ∧ (∀ b,b≠nid → b∉SA.bk a → r.2.ai b=σ.ai b) ∧ ∀ b∈SA.bk a',b=nid:=by
  intro a hb hn h
  subst hn
  have hc:cs=[]:=List.eq_nil_of_length_eq_zero (by simpa using hl)
  subst hc
  rw [L8,cond_true]
  cases m with
  |zero=>
   have:new=[]:=List.eq_nil_of_length_eq_zero (by simpa using hm)
   subst this
   rw [L8,cond_true]
   exact U.2 ⟨a,rfl,by simpa using h,rfl,fun _ _ _=>rfl,fun b oP=>by rw [hb] at oP;simp at oP⟩
  |succ m=>
   have z':Nat.beq (m+1) 0=false:=rfl
   simp only [z',cond_false]
   exact U.2 ⟨_,by rw [Nat.zero_add],aN.new (by simp [hm]) (by simp) bS,rfl,fun q hq _=>by simp [hq],fun b oP=>by simpa [SA.bk] using oP⟩
 cases a with
 |ar=>exact hw.elim
 |loc b o N8=>
  obtain ⟨k,rfl,rfl,rfl,h3,h4⟩:=hw
  have hc:(Nat.beq el el && Nat.ble (0+n*N8) cs.length)=true:=by
   rw [L8,Bool.true_and];exact Nat.ble_eq_true_of_le (by omega)
  simp only [AH.bP,h3,hc,cond_true]
  have ht:(cs.drop 0).take (n*N8)=cs:=by rw [List.drop_zero,List.take_of_length_le (by omega)]
  rw [ht]
  exact U.2 ⟨_,rfl,aN.new (by simp [hl,hm,hmul]) (by simp) bS,rfl,fun q hq LF=>by
   have:q≠k:=fun e=>LF (by simp [SA.bk,e])
   simp [hq,this],fun b oP=>by simpa [SA.bk] using oP⟩
 |nil=>exact alm .nil rfl hw h
 |z=>exact alm .z rfl hw h
structure Sls (σ:AH O) (el es:Nat) (L:List (SA × List AV)):Prop where
 own:∀ p∈L,∃ n,aN σ el es p.1 n p.2
 apart:∀ (i j:Nat) (p q:SA × List AV) (b:Nat),L[i]? = some p → L[j]? = some q → b∈SA.bk p.1 → b∈SA.bk q.1 → i=j
def sbk (L:List (SA × List AV)):List Nat:=L.flatMap fun p=>SA.bk p.1
theorem GH {L:List (SA × List AV)} {b:Nat}:b∈sbk L ↔ ∃ p∈L,b∈SA.bk p.1:=by simp [sbk]
theorem Sls.lt {σ:AH O} {el es:Nat} {L:List (SA × List AV)} (h:Sls σ el es L):∀ b∈sbk L,b<σ.next:=fun b hb=>by
 obtain ⟨p,hp,hb⟩:=GH.1 hb
 obtain ⟨n,ho⟩:=h.own p hp
 exact ho.lt b hb
theorem Sls.of {σ aj:AH O} {el es:Nat} {L:List (SA × List AV)} (h:Sls σ el es L) (hn:σ.next ≤ aj.next) (hb:∀ b∈sbk L,aj.ai b=σ.ai b):Sls aj el es L:=
 ⟨fun p hp=>by obtain ⟨n,ho⟩:=h.own p hp;exact ⟨n,ho.of hn fun b oP=>hb b (GH.2 ⟨p,hp,oP⟩)⟩,h.apart⟩
theorem Sls.nil (σ:AH O) (el es:Nat):Sls σ el es []:=⟨fun p hp=>(by cases hp),fun i j p q b h=>by simp at h⟩
theorem Sls.set {σ aj:AH O} {el es:Nat} {L:List (SA × List AV)} (h:Sls σ el es L) {i:Nat} {p p':SA × List AV} (hi:L[i]? = some p) (hn:σ.next ≤ aj.next)
  (hb:∀ b∈sbk L,b∉SA.bk p.1 → aj.ai b=σ.ai b) (ho:∃ n,aN aj el es p'.1 n p'.2) (hf:∀ b∈SA.bk p'.1,b∈SA.bk p.1 ∨ b∉sbk L):Sls aj el es (L.set i p'):=by
 have bS:=(List.getElem?_eq_some_iff.1 hi).1
 have key:∀ (j:Nat) (q:SA × List AV),(L.set i p')[j]? = some q → (j=i ∧ q=p') ∨ (j≠i ∧ L[j]? = some q):=fun j q hq=>by
  rw [List.getElem?_set] at hq
  split at hq
  ·rename_i hij;subst hij;simp at hq;exact .inl ⟨rfl,hq.symm⟩
  ·rename_i hij;exact .inr ⟨fun e=>hij e.symm,hq⟩
 refine ⟨fun q hq=>?_,fun j k q r b hj hk hbq hbr=>?_⟩
 ·obtain ⟨j,hj⟩:=List.getElem?_of_mem hq
  rcases key j q hj with ⟨_,rfl⟩ |⟨hji,hj⟩
  ·exact ho
  ·obtain ⟨n,ho⟩:=h.own q (List.mem_of_getElem? hj)
   exact ⟨n,ho.of hn fun b oP=>hb b (GH.2 ⟨q,List.mem_of_getElem? hj,oP⟩) fun hp=>hji (h.apart j i q p b hj hi oP hp)⟩
 ·rcases key j q hj with ⟨e1,e2⟩ |⟨hji,hj'⟩<;>rcases key k r hk with ⟨e3,e4⟩ |⟨hki,hk'⟩
  ·omega
  ·subst e1;subst e2
   rcases hf b hbq with g |g
   ·exact absurd (h.apart k j r p b hk' hi hbr g) hki
   ·exact absurd (GH.2 ⟨r,List.mem_of_getElem? hk',hbr⟩) g
  ·subst e3;subst e4
   rcases hf b hbr with g |g
   ·exact absurd (h.apart j k q p b hj' hi hbq g) hji
   ·exact absurd (GH.2 ⟨q,List.mem_of_getElem? hj',hbq⟩) g
  ·exact h.apart j k q r b hj' hk' hbq hbr
theorem aa7 {α:Type} {enc:α → List AV} {k:Nat} (hk:∀ x,(enc x).length=k):∀ l:List α,(l.flatMap enc).length=l.length*k
 |[]=>by simp
 |x::l=>by simp only [List.flatMap_cons,List.length_append,hk,aa7 hk l,List.length_cons,Nat.succ_mul];omega
theorem aa8 {α:Type} {enc:α → List AV} {k:Nat} (hk:∀ x,(enc x).length=k):∀ (l:List α) (i j:Nat),j<k → (l.flatMap enc)[i*k+j]? = (l[i]?).bind fun x=>(enc x)[j]?
 |[],i,j,hj=>by simp
 |x::l,0,j,hj=>by
  simp only [List.flatMap_cons,Nat.zero_mul,Nat.zero_add,List.getElem?_cons_zero,Option.bind_some]
  rw [List.getElem?_append_left (by rw [hk];exact hj)]
 |x::l,i+1,j,hj=>by
  simp only [List.flatMap_cons,List.getElem?_cons_succ]
  rw [Nat.succ_mul,List.getElem?_append_right (by rw [hk];omega),hk,show i*k+k+j - k=i*k+j by omega]
  exact aa8 hk l i j hj
theorem adK {α:Type} {enc:α → List AV} {k:Nat} (hk:∀ x,(enc x).length=k) {l:List α} {i j:Nat} (hj:j<k) {x:α} (hx:l[i]? = some x):(l.flatMap enc)[i*k+j]? = (enc x)[j]? := by
 rw [aa8 hk l i j hj,hx];rfl
theorem nh.row {α:Type} {enc:α → List AV} {k n:Nat} (hk:∀ x,(enc x).length=k) {a:SA} {l:List α} (h:nh k a n (l.flatMap enc)) {i:Nat} {x:α} (hx:l[i]? = some x) (hk0:0<k):
  ∃ b o,a=.loc b o k ∧ ∀ (O:Type) (σ:AH O) (j:Nat),j<k → σ.ld b (o+i*k+j)=(enc x)[j]? := by
 have hi:i<n:=by
  have h1:=h.len
  rw [aa7 hk] at h1
  have h2:=Nat.eq_of_mul_eq_mul_right hk0 h1
  have:=(List.getElem?_eq_some_iff.1 hx).1
  omega
 obtain ⟨b,o,rfl,_⟩:=(h Unit ⟨fun _=>none,0⟩).ref hi
 refine ⟨b,o,rfl,fun O σ j hj=>?_⟩
 obtain ⟨b',o',e,h2⟩:=(h O σ).ref hi
 cases e
 rw [h2 j hj,adK hk hj hx]
theorem Rd.at1 {σ:AH O} {n:Nat} {a:SA} {cs:List AV} (h:Rd σ 1 a n cs) {i:Nat} {v:AV} (hv:cs[i]? = some v):∃ b o,a=.loc b o 1 ∧ σ.ld b (o+i*1)=some v:=by
 have hi:i<n:=by
  have:=(List.getElem?_eq_some_iff.1 hv).1
  rw [h.len] at this;omega
 obtain ⟨b,o,rfl,h2⟩:=h.ref hi
 exact ⟨b,o,rfl,by have:=h2 0 (by omega);rwa [Nat.add_zero,Nat.mul_one,Nat.add_zero,hv,← Nat.mul_one i] at this⟩
theorem Rd.ld1 {σ:AH O} {n:Nat} {a:SA} {cs:List AV} (h:Rd σ 1 a n cs) {i:Nat} {v:AV} (hv:cs[i]? = some v) {B:Type} (f:AV → Option B):((SA.ref a).bind fun q=>(σ.ld q.1 (q.2+i*1)).bind f)=f v:=by
 obtain ⟨b,o,rfl,h2⟩:=h.at1 hv
 simp only [SA.ref,Option.bind_some]
 rw [h2];rfl
def FZ (d:Nat) (H:Nat → Option (oM O)) (L:List Nat) (v v':AV):Prop:=
 ∀ σ:AH O,(∀ b∈L,σ.ai b=H b) → ∃ aj,BF d σ v=some (v',aj) ∧ aj.next=σ.next ∧ ∀ b,aj.ai b=if b∈L then none else σ.ai b
def re (d:Nat) (H:Nat → Option (oM O)) (L:List Nat) (vs Bq:List AV):Prop:=
 ∀ σ:AH O,(∀ b∈L,σ.ai b=H b) → ∃ aj,DG (BF d) vs σ=some (Bq,aj) ∧ aj.next=σ.next ∧ ∀ b,aj.ai b=if b∈L then none else σ.ai b
theorem QX {d:Nat} {σ:AH O} {b o es n:Nat}:BF (d+1) σ (.sl (.loc (.n b) o es) n)=match σ.ai b with
   |some (.cells true _ cs)=>bif Nat.ble (o+n*es) cs.length then (DG (BF d) ((cs.drop o).take (n*es)) (σ.kill b)).bind fun r=>some (.sl (.loc (.f r.1) 0 es) n,r.2) else none
   |_=>none:=rfl
theorem re.nil {d:Nat} {H:Nat → Option (oM O)}:re d H [] [] []:=fun σ _=>⟨σ,rfl,rfl,fun b=>by simp⟩
theorem re.cons {d:Nat} {H:Nat → Option (oM O)} {L1 L2:List Nat} {v v':AV} {vs Bq:List AV} (h1:FZ d H L1 v v') (h2:re d H L2 vs Bq) (hd:∀ b∈L1,b∉L2):re d H (L1++L2) (v::vs) (v'::Bq):=fun σ dP=>by
 obtain ⟨aJ,e1,n1,b1⟩:=h1 σ fun b hb=>dP b (by simp [hb])
 obtain ⟨aP,e2,n2,b2⟩:=h2 aJ fun b hb=>by rw [b1,if_neg (fun h=>hd b h hb)];exact dP b (by simp [hb])
 refine ⟨aP,by simp only [DG,e1,e2,Option.bind_some],by omega,fun b=>?_⟩
 rw [b2,b1]
 by_cases g1:b∈L1<;>by_cases g2:b∈L2<;>simp [g1,g2]
theorem re.aln {d:Nat} {H:Nat → Option (oM O)} {L:List Nat} {v v':AV} {vs Bq:List AV} (h1:FZ d H [] v v') (h2:re d H L vs Bq):re d H L (v::vs) (v'::Bq):=by
 have:=re.cons h1 h2 (by simp)
 simpa using this
def AV.flat:AV → Bool
 |.sl (.loc (.n _) _ _) _=>false
 |.p (some (.n _,_))=>false
 |.agg _=>false
 |.aS _=>false
 |_=>true
theorem FZ.flat {d:Nat} {H:Nat → Option (oM O)} {v:AV} (h:v.flat=true):FZ (d+1) H [] v v:=fun σ _=>by
 refine ⟨σ,?_,rfl,fun b=>by simp⟩
 unfold BF
 split<;>first |rfl |(simp [AV.flat] at h)
theorem re.flat {d:Nat} {H:Nat → Option (oM O)}:∀ {vs:List AV},vs.all AV.flat=true → re (d+1) H [] vs vs
 |[],_=>re.nil
 |v::vs,h=>by
  simp only [List.all_cons,Bool.and_eq_true] at h
  exact re.aln (FZ.flat h.1) (re.flat h.2)
theorem re.append {d:Nat} {H:Nat → Option (oM O)} {L1 L2:List Nat} {us us' vs Bq:List AV} (h1:re d H L1 us us') (h2:re d H L2 vs Bq) (hd:∀ b∈L1,b∉L2):re d H (L1++L2) (us++vs) (us'++Bq):=fun σ dP=>by
 have app:∀ (us:List AV) (us':List AV) (σ aJ aP:AH O),DG (BF d) us σ=some (us',aJ) → DG (BF d) vs aJ=some (Bq,aP) → DG (BF d) (us++vs) σ=some (us'++Bq,aP):=by
  intro us
  induction us with
  |nil=>intro us' σ aJ aP e1 e2;cases e1;exact e2
  |cons u us ih=>
   intro us' σ aJ aP e1 e2
   simp only [DG] at e1
   obtain ⟨⟨u1,s1⟩,g1,e1⟩:=Option.bind_eq_some_iff.1 e1
   obtain ⟨⟨us1,s2⟩,g2,e1⟩:=Option.bind_eq_some_iff.1 e1
   cases e1
   simp only [List.cons_append,DG,g1,ih _ _ _ _ g2 e2,Option.bind_some]
 obtain ⟨aJ,e1,n1,b1⟩:=h1 σ fun b hb=>dP b (by simp [hb])
 obtain ⟨aP,e2,n2,b2⟩:=h2 aJ fun b hb=>by rw [b1,if_neg (fun h=>hd b h hb)];exact dP b (by simp [hb])
 refine ⟨aP,app _ _ _ _ _ e1 e2,by omega,fun b=>?_⟩
 rw [b2,b1]
 by_cases g1:b∈L1<;>by_cases g2:b∈L2<;>simp [g1,g2]
theorem FZ.sl {d:Nat} {σ:AH O} {H:Nat → Option (oM O)} {L:List Nat} {el es n:Nat} {a:SA} {cs qm:List AV} (h:aN σ el es a n cs) (hH:∀ b∈SA.bk a,H b=σ.ai b) (hc:re (d+1) H L cs qm) (hl:qm.length=cs.length) (hd:∀ b∈SA.bk a,b∉L):∃ a',FZ (d+2) H (SA.bk a++L) (.sl a n) (.sl a' n) ∧ nh es a' n qm:=by
 have hw:=h.wh
 have hlen:=h.len
 have nz:n=0 → cs=[]:=fun e=>by subst e;exact List.eq_nil_of_length_eq_zero (by simpa using hlen)
 have e0:n=0 → qm=[]:=fun e=>by rw [nz e] at hl;exact List.eq_nil_of_length_eq_zero (by simpa using hl)
 have zero:∀ a:SA,SA.bk a=[] → (a=.nil ∨ a=.z) → n=0 → FZ (d+2) H (SA.bk a++L) (.sl a n) (.sl a n):=fun a hb ha hn aJ dP=>by
  have h0:=nz hn
  subst h0
  obtain ⟨aj,e1,n1,b1⟩:=hc aJ (fun b oP=>dP b (by simp [oP]))
  simp only [DG,Option.some.injEq,Prod.mk.injEq] at e1
  obtain ⟨_,rfl⟩:=e1
  refine ⟨aJ,?_,rfl,fun b=>by rw [hb,List.nil_append];exact b1 b⟩
  rcases ha with rfl |rfl<;>rfl
 cases a with
 |ar=>exact hw.elim
 |loc b o e=>
  obtain ⟨k,rfl,rfl,rfl,h3,h4⟩:=hw
  refine ⟨.loc (.f qm) 0 e,fun aJ dP=>?_,nh.f (by rw [hl];exact hlen)⟩
  have hk:aJ.ai k=some (.cells true el cs):=by rw [dP k (by simp [SA.bk]),hH k (by simp [SA.bk])];exact h3
  obtain ⟨aj,e1,n1,b1⟩:=hc (aJ.kill k) fun b hb=>by
   have:b≠k:=fun e=>hd k (by simp [SA.bk]) (e▸hb)
   rw [lS,if_neg this];exact dP b (by simp [hb])
  refine ⟨aj,?_,by simpa using n1,fun b=>?_⟩
  ·rw [QX,hk]
   simp only
   rw [Nat.ble_eq_true_of_le (by omega),cond_true,List.drop_zero,List.take_of_length_le (by omega),e1];rfl
  ·rw [b1,lS]
   by_cases g1:b=k<;>by_cases g2:b∈L<;>simp [SA.bk,g1,g2]
 |nil=>exact ⟨.nil,zero .nil rfl (.inl rfl) hw,by have hw:n=0:=hw;subst hw;rw [e0 rfl];exact nh.nil es⟩
 |z=>exact ⟨.z,zero .z rfl (.inr rfl) hw,by have hw:n=0:=hw;subst hw;rw [e0 rfl];exact nh.z es⟩
theorem FZ.agg {d:Nat} {H:Nat → Option (oM O)} {L:List Nat} {vs Bq:List AV} (h:re d H L vs Bq):FZ (d+1) H L (.agg vs) (.agg Bq):=fun σ dP=>by
 obtain ⟨aj,e,n,b⟩:=h σ dP
 exact ⟨aj,by simp only [BF,e,Option.bind_some],n,b⟩
theorem FZ.aS {d:Nat} {H:Nat → Option (oM O)} {L:List Nat} {vs Bq:List AV} (h:re d H L vs Bq):FZ (d+1) H L (.aS vs) (.aS Bq):=fun σ dP=>by
 obtain ⟨aj,e,n,b⟩:=h σ dP
 exact ⟨aj,by simp only [BF,e,Option.bind_some],n,b⟩
theorem yp {s:Sm O} {xs:List AV} {σ:AH O} {Q:AV → Prop} (h:Ok (s xs σ) fun r=>∃ v' L,FZ 8 r.2.ai L r.1 v' ∧ (∀ b∈L,σ.next ≤ b) ∧ Ext σ r.2 ∧ Q v'):Ok (yh s xs σ) fun r=>Q r.1 ∧ Ext σ r.2:=by
 obtain ⟨⟨v,aJ⟩,h1,v',L,h2,h3,h4,h5⟩:=h
 obtain ⟨aP,e,n,b⟩:=h2 aJ fun _ _=>rfl
 refine ⟨(v',aP),by simp only [yh,h1,Option.bind_some,e],h5,by show σ.next ≤ aP.next;rw [n];exact h4.next,fun q hq=>?_⟩
 show aP.ai q=_
 rw [b,if_neg (fun hm=>by have:=h3 q hm;omega)];exact h4.ai q hq
end Go.Abs
